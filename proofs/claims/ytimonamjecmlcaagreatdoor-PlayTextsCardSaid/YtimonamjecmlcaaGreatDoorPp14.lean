/- Texts for LPlayUnlines,LPlayParses,LPlayTexts,LPlayNotes,LPlayLines, part 14. -/
import Derived.Recover
import Derived.Test.YtimonamjecmlcaaGreatDoorPp13
set_option maxRecDepth 100000
namespace Go.V
def blkB:Code->Code
 | .block _ b=>b
 | c=>c
def cndT:Code->Code
 | .cond _ t _=>t
 | c=>c
theorem St1.imp{w:Wd}{a:Addr}{v:Value}{K K':Wd->Prop}(h:St1 w a v K)(hk:∀ w,K w->K' w):St1 w a v K':=by
 obtain ⟨cs,T,fz,h1,h2,h3,h4,h5,h6⟩:=h; exact ⟨cs,T,fz,h1,h2,h3,h4,h5,fun w' hw=>hk w' (h6 w' hw)⟩
theorem StN.imp{w:Wd}{a:Addr}{vs:List Value}{K K':Wd->Prop}(h:StN w a vs K)(hk:∀ w,K w->K' w):StN w a vs K':=by
 obtain ⟨cs,T,fz,h1,h2,h3,h4,h5,h6⟩:=h; exact ⟨cs,T,fz,h1,h2,h3,h4,h5,fun w' hw=>hk w' (h6 w' hw)⟩
def cndE:Code->Code
 | .cond _ _ e=>e
 | c=>c
end Go.V
namespace Go.Proofs.YtimonamjecmlcaaGreatDoor
open Go.V
noncomputable abbrev c41:Code:=Tryz.f41.body.getD .skip
theorem body41:Tryz.f41.body=some c41:=by kernel_rfl
theorem c41_eq:c41 = .seq (.region 0 (regOps (seqL c41)) false) (seqR c41):=by kernel_rfl
theorem size41:(regOps (seqL c41)).size=1:=by kernel_rfl
section
variable {Q:Exit->Act->List Frame->Wd->Prop} {a:Act} {cs:List Frame} {w:Wd}
theorem ops41:wpOpsS pz (regOps (seqL c41)) Q [0] a cs w=(match recoverD cs with
  | some (v,cs')=>Q .normal (a.put (some 5) v) cs' w
  | none=>Q .normal (a.put (some 5) .nilIface) cs w):=by kernel_rfl
theorem wp41 (h:match recoverD cs with
  | some (v,cs')=>(seqR c41).wpS pz Q (a.put (some 5) v) cs' w
  | none=>(seqR c41).wpS pz Q (a.put (some 5) .nilIface) cs w):c41.wpS pz Q a cs w:=by
 rw [c41_eq]
 refine wpS_seq (wpS_region ?_)
 rw [size41,show List.range 1=[0] from rfl,ops41]
 cases hr:recoverD cs with
 | none=>rw [hr] at h; exact h
 | some p=>rw [hr] at h; exact h
end
noncomputable abbrev ur3:Code:=seqL (blkB (seqR c41))
noncomputable abbrev uk7:Code:=seqR (blkB (seqR c41))
noncomputable abbrev ur5:Code:=seqL (cndE uk7)
noncomputable abbrev uk9:Code:=seqR (cndE uk7)
theorem rest41_eq:seqR c41 = .block 0 (.seq (.region 3 (regOps ur3) false) (.cond (.tmp 7) (.region 4 (regOps (cndT uk7)) false) (.seq (.region 5 (regOps ur5) false) (.cond (.tmp 9) (.seq (.region 6 (regOps (seqL (cndT uk9))) false) (.region 7 (regOps (seqR (cndT uk9))) false)) (cndE uk9))))):=by kernel_rfl
abbrev u65(ra ea:Addr)(v:Value):Act:=Act.put { tmps:=#[.pointer (some ra), .pointer (some ea)]++Array.replicate 10 undef,defers:=[] } (some 5) v
section
variable {w:Wd} {ra ea:Addr}
theorem wpOps_val{P:Program}{ops:Array Oper}{Q:Exit->Act->Wd->Prop}{i:Nat}{rest:List Nat}{a:Act}{w w':Wd}{o:Oper}{v:Value}(ho:ops[i]? = some o)(hw:Region.wanted o (yielded ops a.tmps)=true)(hr:(execOp a.eval o).run P w = .ok (.value v) w')(h:wpOps P ops Q rest (a.put o.dst v) w'):wpOps P ops Q (i::rest) a w:=by
 simp only [wpOps,ho,hw,if_true]
 left
 simp only [Oper.wp,Oper.upon,hr]; exact h
theorem wpOps_dfr{P:Program}{ops:Array Oper}{Q:Exit->Act->Wd->Prop}{i:Nat}{rest:List Nat}{a:Act}{w w':Wd}{o:Oper}{d:Deferred}(ho:ops[i]? = some o)(hw:Region.wanted o (yielded ops a.tmps)=true)(hr:(execOp a.eval o).run P w = .ok (.defer d) w')(h:wpOps P ops Q rest (Act.put { a with defers:=d::a.defers } o.dst undef) w'):wpOps P ops Q (i::rest) a w:=by
 simp only [wpOps,ho,hw,if_true]
 left
 simp only [Oper.wp,Oper.upon,hr]; exact h
theorem usize3:(regOps ur3).size=1:=by kernel_rfl
theorem usize4:(regOps (cndT uk7)).size=1:=by kernel_rfl
theorem ureg3_nil{Q:Exit->Act->Wd->Prop}(h:Q .normal ((u65 ra ea .nilIface).put (some 7) (.bool true)) w):wpOps pz (regOps ur3) Q [0] (u65 ra ea .nilIface) w:=by
 have e:(regOps ur3)[0]? = some ((regOps ur3)[0]'(by rw [usize3]; decide)):=Array.getElem?_eq_getElem _
 refine wpOps_val (v := .bool true) (w':=w) e (by kernel_rfl) (by kernel_rfl) ?_
 rw [show ((regOps ur3)[0]'(by rw [usize3]; decide)).dst=some 7 by kernel_rfl]
 exact h
abbrev u65n(ra ea:Addr):Act:=(u65 ra ea .nilIface).put (some 7) (.bool true)
theorem ureg4_nil{Q:Exit->Act->Wd->Prop}(h:Q .normal ((u65n ra ea).put (some 2) .nilIface) w):wpOps pz (regOps (cndT uk7)) Q [0] (u65n ra ea) w:=by
 have e:(regOps (cndT uk7))[0]? = some ((regOps (cndT uk7))[0]'(by rw [usize4]; decide)):=Array.getElem?_eq_getElem _
 refine wpOps_val (v := .nilIface) (w':=w) e (by kernel_rfl) (by kernel_rfl) ?_
 rw [show ((regOps (cndT uk7))[0]'(by rw [usize4]; decide)).dst=some 2 by kernel_rfl]
 exact h
theorem d41_ret:CallsD pz 41 #[.pointer (some ra), .pointer (some ea)] .returning w (fun e u' w'=>(∃ v,e = .returned v)/\u' = .returning/\w'=w):=by
 refine callsD_of_wpS Tryz.func41 body41 fun c₀ cs hu=>wp41 ?_
 have hr:recoverD (c₀::cs)=none:=by simp [recoverD,hu]
 rw [hr]
 have hn:Tryz.f41.ntmps - (#[.pointer (some ra), .pointer (some ea)]:Array Value).size=10:=by kernel_rfl
 rw [hn]
 rw [rest41_eq]
 refine wpS_of_wp (wp_block (wp_seq (wp_region ?_)))
 rw [usize3]
 refine ureg3_nil (ra:=ra) (ea:=ea) (wp_cond_true (by kernel_rfl) (wp_region ?_))
 rw [usize4]
 refine ureg4_nil (ra:=ra) (ea:=ea) ?_
 refine ⟨rfl, .returning,by rw [<- hu], .tuple #[],?_,⟨_,rfl⟩,rfl,rfl⟩
 kernel_rfl
abbrev wrV:Value := .iface 82 (.agg ([]).toArray)
abbrev AU67:Ann := .seq .nil .nil
abbrev ru67(ra ea:Addr):Env:=put (put (put (put (put (argEnv [.pointer (some ra), .pointer (some ea)]) 5 wrV) 7 (.bool false)) 8 (.tuple #[.agg #[], .bool true])) 9 (.bool true)) 10 (.agg #[])
def F41(ra ea:Addr)(w:Wd)(K:Wd->Prop):Prop :=
 NewW w (.cells [].toArray 82) fun b w1 =>
 List.length (α:=Value) []=0/\StN w1 (Addr.mk b 0 none) [] fun w2 =>
 List.length (α:=Value) [.int .i64 0, .int .i64 0, .int .u32 0, .slice none 0 0, .int .i64 0, .int .i64 0, .int .u64 0, .int .u64 0, .int .u64 0, .int .u8 0, .slice none 0 0, .slice none 0 0, .slice none 0 0, .slice none 0 0, .bool false, .int .i64 0, .int .i64 0, .slice none 0 0, .slice none 0 0]=19/\StN w2 ra [.int .i64 0, .int .i64 0, .int .u32 0, .slice none 0 0, .int .i64 0, .int .i64 0, .int .u64 0, .int .u64 0, .int .u64 0, .int .u8 0, .slice none 0 0, .slice none 0 0, .slice none 0 0, .slice none 0 0, .bool false, .int .i64 0, .int .i64 0, .slice none 0 0, .slice none 0 0] fun w3 =>
 St1 w3 ea (.int .i64 5) fun w4 =>
 K w4
theorem f41{K:Wd->Prop}(h:F41 ra ea w K):wpc pz PK NoX AU67 (.seq (.region 6 (regOps (seqL (cndT uk9))) false) (.region 7 (regOps (seqR (cndT uk9))) false)) (fun e _ w'=>match e with | .normal=>K w' | _=>False) (ru67 ra ea) w:=by
 have e:F41 ra ea w K=wpc pz PK NoX AU67 (.seq (.region 6 (regOps (seqL (cndT uk9))) false) (.region 7 (regOps (seqR (cndT uk9))) false)) (fun e _ w'=>match e with | .normal=>K w' | _=>False) (ru67 ra ea) w:=by kernel_rfl
 rw [<- e]; exact h
theorem uok67:chk pz 12 AU67 (.seq (.region 6 (regOps (seqL (cndT uk9))) false) (.region 7 (regOps (seqR (cndT uk9))) false))=true:=by kernel_rfl
theorem usize5:(regOps ur5).size=3:=by kernel_rfl
abbrev ua7(ra ea:Addr):Act:=(u65 ra ea wrV).put (some 7) (.bool false)
abbrev ua8(ra ea:Addr):Act:=(ua7 ra ea).put (some 8) (.tuple #[.agg #[], .bool true])
abbrev ua9(ra ea:Addr):Act:=(ua8 ra ea).put (some 9) (.bool true)
abbrev ua10(ra ea:Addr):Act:=(ua9 ra ea).put (some 10) (.agg #[])
theorem ureg3_wr{Q:Exit->Act->Wd->Prop}(h:Q .normal (ua7 ra ea) w):wpOps pz (regOps ur3) Q [0] (u65 ra ea wrV) w:=by
 have e:(regOps ur3)[0]? = some ((regOps ur3)[0]'(by rw [usize3]; decide)):=Array.getElem?_eq_getElem _
 refine wpOps_val (v := .bool false) (w':=w) e (by kernel_rfl) (by kernel_rfl) ?_
 rw [show ((regOps ur3)[0]'(by rw [usize3]; decide)).dst=some 7 by kernel_rfl]
 exact h
theorem ureg5_wr{Q:Exit->Act->Wd->Prop}(h:Q .normal (ua10 ra ea) w):wpOps pz (regOps ur5) Q [0,1,2] (ua7 ra ea) w:=by
 have e0:(regOps ur5)[0]? = some ((regOps ur5)[0]'(by rw [usize5]; decide)):=Array.getElem?_eq_getElem _
 have e1:(regOps ur5)[1]? = some ((regOps ur5)[1]'(by rw [usize5]; decide)):=Array.getElem?_eq_getElem _
 have e2:(regOps ur5)[2]? = some ((regOps ur5)[2]'(by rw [usize5]; decide)):=Array.getElem?_eq_getElem _
 refine wpOps_val (v := .tuple #[.agg #[], .bool true]) (w':=w) e0 (by kernel_rfl) (by kernel_rfl) ?_
 rw [show ((regOps ur5)[0]'(by rw [usize5]; decide)).dst=some 8 by kernel_rfl]
 refine wpOps_val (v := .bool true) (w':=w) e1 (by kernel_rfl) (by kernel_rfl) ?_
 rw [show ((regOps ur5)[1]'(by rw [usize5]; decide)).dst=some 9 by kernel_rfl]
 refine wpOps_val (v := .agg #[]) (w':=w) e2 (by kernel_rfl) (by kernel_rfl) ?_
 rw [show ((regOps ur5)[2]'(by rw [usize5]; decide)).dst=some 10 by kernel_rfl]
 exact h
theorem urep10:Rep [] 12 (ua10 ra ea) (ru67 ra ea):=by
 have h0:Rep [] 12 { tmps:=#[.pointer (some ra), .pointer (some ea)]++Array.replicate 10 undef,defers:=[] } (argEnv [.pointer (some ra), .pointer (some ea)]):=args_rep (args:=[.pointer (some ra), .pointer (some ea)]) (m:=12) rfl
 exact (((((h0.put (by decide) _).put (by decide) _).put (by decide) _).put (by decide) _).put (by decide) _)
theorem d41_pan{K:Wd->Prop}(h:F41 ra ea w K):CallsD pz 41 #[.pointer (some ra), .pointer (some ea)] (.panicking wrongP) w (fun e u' w'=>(∃ v,e = .returned v)/\settle u' = .returning/\K w'):=by
 refine callsD_of_wpS Tryz.func41 body41 fun c₀ cs hu=>wp41 ?_
 have hr:recoverD (c₀::cs)=some (wrV,{ c₀ with mode := .panicking [{ v:=wrV,recovered:=true }] }::cs):=by simp [recoverD,hu]
 rw [hr]
 have hn:Tryz.f41.ntmps - (#[.pointer (some ra), .pointer (some ea)]:Array Value).size=10:=by kernel_rfl
 rw [hn]
 rw [rest41_eq]
 refine wpS_of_wp (wp_block (wp_seq (wp_region ?_)))
 rw [usize3]
 refine ureg3_wr (ra:=ra) (ea:=ea) (wp_cond_false (by kernel_rfl) (wp_seq (wp_region ?_)))
 rw [usize5]
 refine ureg5_wr (ra:=ra) (ea:=ea) (wp_cond_true (by kernel_rfl) (wp_mono (wpIn_wide.1 (wpc_sound (ro:=none) (n:=12) (D:=[]) AU67 _ _ (ru67 ra ea) w (ua10 ra ea) (.inl rfl) uok67 (f41 h) urep10)) ?_))
 intro e a' w' hp
 cases e with
 | normal =>
  obtain ⟨ρ',r',q',_⟩:=hp
  exact ⟨r'.defers,_,rfl, .tuple #[],by kernel_rfl,⟨_,rfl⟩,rfl,q'⟩
 | panic c=>exact hp.1.elim
 | outgrown=>exact hp.elim
 | exit i=>obtain ⟨_,_,q,_⟩:=hp; exact q.elim
 | goto i=>obtain ⟨_,_,q,_⟩:=hp; exact q.elim
 | ret=>obtain ⟨_,_,q,_⟩:=hp; exact q.elim
noncomputable abbrev c15:Code:=Tryz.f15.body.getD .skip
theorem body15:Tryz.f15.body=some c15:=by kernel_rfl
noncomputable abbrev uq1:Code:=seqL (seqR c15)
noncomputable abbrev rest15:Code:=seqR (seqR c15)
theorem c15_eq:c15 = .seq (seqL c15) (.seq (.region 1 (regOps uq1) false) rest15):=by kernel_rfl
theorem usize1:(regOps uq1).size=2:=by kernel_rfl
theorem umk{a:Act}:(execOp a.eval ((regOps uq1)[0]'(by rw [usize1]; decide))).run pz w = .ok (.value (.func (.func 41) #[] #[a.eval (.tmp 2),a.eval (.tmp 3)])) w:=by kernel_rfl
abbrev dU(x y:Value):Deferred:={ target := .fn (.func 41) #[x,y],args:=#[] }
theorem uev5{a:Act}{v:Value}(h:5 < a.tmps.size):(a.put (some 5) v).eval (.tmp 5)=v:=by
 simp [Act.put,Act.eval,h]
theorem udf{e:Operand->Value}{x y:Value}(h:e (.tmp 5) = .func (.func 41) #[] #[x,y]):(execOp e ((regOps uq1)[1]'(by rw [usize1]; decide))).run pz w = .ok (.defer (dU x y)) w:=by
 have e1:(execOp e ((regOps uq1)[1]'(by rw [usize1]; decide))).run pz w=(execOp (fun _=>e (.tmp 5)) ((regOps uq1)[1]'(by rw [usize1]; decide))).run pz w:=by kernel_rfl
 have e2:(execOp (fun _ => .func (.func 41) #[] #[x,y]) ((regOps uq1)[1]'(by rw [usize1]; decide))).run pz w = .ok (.defer (dU x y)) w:=by kernel_rfl
 rw [e1,h]; exact e2
theorem ureg1{a:Act}{x y:Value}{Q:Exit->Act->Wd->Prop}(hs:5 < a.tmps.size)(h6:a.eval (.tmp 2)=x)(h7:a.eval (.tmp 3)=y)(h:Q .normal { (a.put (some 5) (.func (.func 41) #[] #[x,y])) with defers:=dU x y::a.defers } w):wpOps pz (regOps uq1) Q [0,1] a w:=by
 have e0:(regOps uq1)[0]? = some ((regOps uq1)[0]'(by rw [usize1]; decide)):=Array.getElem?_eq_getElem _
 have e1:(regOps uq1)[1]? = some ((regOps uq1)[1]'(by rw [usize1]; decide)):=Array.getElem?_eq_getElem _
 refine wpOps_val (w':=w) e0 (by kernel_rfl) umk ?_
 rw [h6,h7,show ((regOps uq1)[0]'(by rw [usize1]; decide)).dst=some 5 by kernel_rfl]
 refine wpOps_dfr (w':=w) e1 (by kernel_rfl) (udf (uev5 hs)) ?_
 rw [show ((regOps uq1)[1]'(by rw [usize1]; decide)).dst=none by kernel_rfl]
 exact h
theorem uleave_ret{fn:Func}{tmps:Array Value}{R:Ending->Wd->Prop}(h:∃ v,(results fn tmps).run pz w = .ok v w/\R (.returned v) w):Leaves pz fn tmps R [dU (.pointer (some ra)) (.pointer (some ea))] .returning w:=by
 refine leaves_cons (by simp) (f:=41) (args:=#[.pointer (some ra), .pointer (some ea)]) (by kernel_rfl) (CallsD.mono d41_ret ?_)
 rintro _ _ _ ⟨⟨v,rfl⟩,rfl,rfl⟩
 exact h
theorem uleave_pan{fn:Func}{tmps:Array Value}{R:Ending->Wd->Prop}(h:F41 ra ea w fun w'=>∃ v,(results fn tmps).run pz w' = .ok v w'/\R (.returned v) w'):Leaves pz fn tmps R [dU (.pointer (some ra)) (.pointer (some ea))] (.panicking wrongP) w:=by
 refine leaves_cons (by simp) (f:=41) (args:=#[.pointer (some ra), .pointer (some ea)]) (by kernel_rfl) (CallsD.mono (d41_pan h) ?_)
 rintro _ u' w' ⟨⟨v,rfl⟩,hs,hk⟩
 show Leaves pz fn tmps R [] (settle u') w'
 rw [hs]; exact hk
theorem F41.mono{w:Wd}{K K':Wd->Prop}(h:F41 ra ea w K)(hk:∀ w,K w->K' w):F41 ra ea w K' :=
 fun b w1 n=>let h:=h b w1 n; ⟨h.1,StN.imp h.2 fun _ h=>⟨h.1,StN.imp h.2 fun _ h=>St1.imp h hk⟩⟩
end
section
variable {w:Wd} {fin:Env->Wd->Prop} {R:Ending->Wd->Prop}
abbrev AU15:Ann := .seq .nil (.seq .nil (.seq (.seq .nil (.cond .nil .nil)) (.seq .nil .nil)))
def ptrP(v:Value)(K:Addr->Prop):Prop:=match v with
 | .pointer (some a)=>K a
 | _=>False
def onlyN(N:Env->Wd->Prop):Exit->Env->Wd->Prop
 | .normal,ρ,w=>N ρ w
 | _,_,_=>False
def endP(fin:Env->Wd->Prop):Exit->Env->Wd->Prop
 | .normal,ρ,w=>fin ρ w
 | .ret,ρ,w=>fin ρ w
 | _,_,_=>False
noncomputable def W15 (fin:Env->Wd->Prop) (XP:Addr->Addr->PX) (args:List Value) (w:Wd):Prop:=wpc pz PK NoX .nil (seqL c15) (onlyN fun ρ w=>ptrP (ρ 2) fun ra=>ptrP (ρ 3) fun ea =>
 wpc pz PK (XP ra ea) AU15 rest15 (endP fin) (put ρ 5 (.func (.func 41) #[] #[.pointer (some ra), .pointer (some ea)])) w) (argEnv args) w
abbrev FinU(fin:Env->Wd->Prop)(R:Ending->Wd->Prop):Prop:=∀(D:List Deferred)(ρ:Env)(a:Act)(w:Wd),Rep D 26 a ρ->fin ρ w->∃ v,(results Tryz.f15 a.tmps).run pz w = .ok v w/\R (.returned v) w
theorem mask15:maskC 0x3fffff0 rest15=true:=by kernel_rfl
theorem w15_sound(hf:FinU fin R){XP:Addr->Addr->PX}(hx:∀ ra ea c w',XP ra ea c w'->c=wrongP/\F41 ra ea w' fun w''=>∀ ρ:Env,ρ 2 = .pointer (some ra)->ρ 3 = .pointer (some ea)->fin ρ w''){args:List Value}(ha:Nat.ble args.length 26=true)(h:W15 fin XP args w):Calls pz 15 args.toArray w R:=by
 refine calls_of_wp_defers Tryz.func15 body15 ?_
 rw [c15_eq]
 refine wp_seq (wp_mono (wpIn_wide.1 (wpc_sound (ro:=none) (n:=26) (D:=[]) .nil _ _ _ w _ (.inl rfl) (by kernel_rfl) h (args_rep ha))) ?_)
 intro e a' w' hp
 cases e with
 | normal =>
  obtain ⟨ρ',hr,q,_⟩:=hp
  have q:ptrP (ρ' 2) fun ra=>ptrP (ρ' 3) fun ea=>wpc pz PK (XP ra ea) AU15 rest15 (endP fin) (put ρ' 5 (.func (.func 41) #[] #[.pointer (some ra), .pointer (some ea)])) w':=q
  unfold ptrP at q
  split at q
  case h_2=>exact q.elim
  rename_i ra hra
  split at q
  case h_2=>exact q.elim
  rename_i ea hea
  refine wp_seq (wp_region ?_)
  rw [usize1]
  refine ureg1 (x := .pointer (some ra)) (y := .pointer (some ea)) (by rw [hr.size]; decide) ((hr.get 2).trans hra) ((hr.get 3).trans hea) ?_
  have r1:=hr.put (d:=5) (by decide) (.func (.func 41) #[] #[.pointer (some ra), .pointer (some ea)])
  have r2:Rep [dU (.pointer (some ra)) (.pointer (some ea))] 26 { (a'.put (some 5) (.func (.func 41) #[] #[.pointer (some ra), .pointer (some ea)])) with defers:=dU (.pointer (some ra)) (.pointer (some ea))::a'.defers } (put ρ' 5 (.func (.func 41) #[] #[.pointer (some ra), .pointer (some ea)])):=⟨by rw [hr.defers],r1.size,r1.get⟩
  refine wp_mono (wpIn_wide.1 (wpc_sound (ro:=none) (n:=26) (D:=[dU (.pointer (some ra)) (.pointer (some ea))]) (X:=XP ra ea) AU15 _ _ _ w' _ (.inl rfl) (by kernel_rfl) q r2)) ?_
  intro e a2 w2 hp
  cases e with
  | normal =>
   obtain ⟨ρ2,r3,q2,_⟩:=hp
   show Leaves pz Tryz.f15 _ R _ _ w2
   rw [r3.defers]; exact uleave_ret (hf _ _ _ _ r3 q2)
  | ret =>
   obtain ⟨ρ2,r3,q2,_⟩:=hp
   show Leaves pz Tryz.f15 _ R _ _ w2
   rw [r3.defers]; exact uleave_ret (hf _ _ _ _ r3 q2)
  | panic c =>
   obtain ⟨hX,ρ2,r3,hfr⟩:=hp
   obtain ⟨rfl,hk⟩:=hx _ _ _ _ hX
   have f2:ρ2 2 = .pointer (some ra):=(hfr _ mask15 2 (by decide)).trans ((put_ne _ _ (by decide)).trans hra)
   have f3:ρ2 3 = .pointer (some ea):=(hfr _ mask15 3 (by decide)).trans ((put_ne _ _ (by decide)).trans hea)
   show Leaves pz Tryz.f15 _ R _ _ w2
   rw [r3.defers]
   exact uleave_pan (F41.mono hk fun w h=>hf _ _ _ _ r3 (h ρ2 f2 f3))
  | outgrown=>exact hp.elim
  | exit i=>obtain ⟨_,_,q,_⟩:=hp; exact q.elim
  | goto i=>obtain ⟨_,_,q,_⟩:=hp; exact q.elim
 | ret=>obtain ⟨_,_,q,_⟩:=hp; exact q.elim
 | panic c=>exact hp.1.elim
 | outgrown=>exact hp.elim
 | exit i=>obtain ⟨_,_,q,_⟩:=hp; exact q.elim
 | goto i=>obtain ⟨_,_,q,_⟩:=hp; exact q.elim
end
abbrev KUn:Type:=Int->Int->Int->Sl->Int->Int->Int->Int->Int->Int->Sl->Sl->Sl->Sl->Bool->Int->Int->Sl->Sl->Int->Wd->Prop
def ResU(ra ea:Addr)(K:KUn)(w:Wd):Prop :=
 ∃ c0:Int,Cell w ra (.int .i64 c0) /\
 ∃ c1:Int,Cell w (ra.add 1) (.int .i64 c1) /\
 ∃ c2:Int,Cell w (ra.add 2) (.int .u32 c2) /\
 ∃ c3:Sl,Cell w (ra.add 3) (.slice c3.a c3.len c3.cap) /\
 ∃ c4:Int,Cell w (ra.add 4) (.int .i64 c4) /\
 ∃ c5:Int,Cell w (ra.add 5) (.int .i64 c5) /\
 ∃ c6:Int,Cell w (ra.add 6) (.int .u64 c6) /\
 ∃ c7:Int,Cell w (ra.add 7) (.int .u64 c7) /\
 ∃ c8:Int,Cell w (ra.add 8) (.int .u64 c8) /\
 ∃ c9:Int,Cell w (ra.add 9) (.int .u8 c9) /\
 ∃ c10:Sl,Cell w (ra.add 10) (.slice c10.a c10.len c10.cap) /\
 ∃ c11:Sl,Cell w (ra.add 11) (.slice c11.a c11.len c11.cap) /\
 ∃ c12:Sl,Cell w (ra.add 12) (.slice c12.a c12.len c12.cap) /\
 ∃ c13:Sl,Cell w (ra.add 13) (.slice c13.a c13.len c13.cap) /\
 ∃ c14:Bool,Cell w (ra.add 14) (.bool c14) /\
 ∃ c15:Int,Cell w (ra.add 15) (.int .i64 c15) /\
 ∃ c16:Int,Cell w (ra.add 16) (.int .i64 c16) /\
 ∃ c17:Sl,Cell w (ra.add 17) (.slice c17.a c17.len c17.cap) /\
 ∃ c18:Sl,Cell w (ra.add 18) (.slice c18.a c18.len c18.cap) /\
 ∃ vv:Int,Cell w ea (.int .i64 vv) /\
 K c0 c1 c2 c3 c4 c5 c6 c7 c8 c9 c10 c11 c12 c13 c14 c15 c16 c17 c18 vv w
def XU(ra ea:Addr)(K:KUn):PX:=fun c w'=>c=wrongP/\F41 ra ea w' (ResU ra ea K)
def F_play_Unline(s:ByteArray)(w:Wd)(K:Int->Int->Int->Sl->Int->Int->Int->Int->Int->Int->Sl->Sl->Sl->Sl->Bool->Int->Int->Sl->Sl->Int->Wd->Prop):Prop:=NewW w (.cells [.int .i64 0, .int .i64 0, .int .u32 0, .slice none 0 0, .int .i64 0, .int .i64 0, .int .u64 0, .int .u64 0, .int .u64 0, .int .u8 0, .slice none 0 0, .slice none 0 0, .slice none 0 0, .slice none 0 0, .bool false, .int .i64 0, .int .i64 0, .slice none 0 0, .slice none 0 0].toArray 32) fun a e0=>NewW e0 (.cells [.int .i64 0].toArray 36) fun t e1=>C_strings_Split s ⟨#[32]⟩ e1 fun Z e2=>NewW e2 (.cells [.slice Z.a Z.len Z.cap].toArray 86) fun a0 e3=>C_play_reader_event (some (A0 a0)) e3 (fun c5 c9 d0 r d1 d2 d3 d4 d5 d6 l m n o c6 c7 c8 p q e4=>StL e4 (A0 a) 19 [.int .i64 c5, .int .i64 c9, .int .u32 d0, .slice r.a r.len r.cap, .int .i64 d1, .int .i64 d2, .int .u64 d3, .int .u64 d4, .int .u64 d5, .int .u8 d6, .slice l.a l.len l.cap, .slice m.a m.len m.cap, .slice n.a n.len n.cap, .slice o.a o.len o.cap, .bool c6, .int .i64 c7, .int .i64 c8, .slice p.a p.len p.cap, .slice q.a q.len q.cap] fun b=>Nn (some (A0 a0)) fun d8=>∃ L:Sl,Cell b d8 (.slice L.a L.len L.cap)/\If (decide (((L.len:Int)) > 0)) ((XU (A0 a) (A0 t) K) [{ v := .iface 82 (.agg ([]).toArray),recovered:=false }] b) (∃ a1:Int,Cell b (A0 a) (.int .i64 a1)/\∃ a2:Int,Cell b ((A0 a).add 1) (.int .i64 a2)/\∃ a6:Int,Cell b ((A0 a).add 2) (.int .u32 a6)/\∃ C:Sl,Cell b ((A0 a).add 3) (.slice C.a C.len C.cap)/\∃ a9:Int,Cell b ((A0 a).add 4) (.int .i64 a9)/\∃ b7:Int,Cell b ((A0 a).add 5) (.int .i64 b7)/\∃ c1:Int,Cell b ((A0 a).add 6) (.int .u64 c1)/\∃ c2:Int,Cell b ((A0 a).add 7) (.int .u64 c2)/\∃ c3:Int,Cell b ((A0 a).add 8) (.int .u64 c3)/\∃ c4:Int,Cell b ((A0 a).add 9) (.int .u8 c4)/\∃ u:Sl,Cell b ((A0 a).add 10) (.slice u.a u.len u.cap)/\∃ x:Sl,Cell b ((A0 a).add 11) (.slice x.a x.len x.cap)/\∃ y:Sl,Cell b ((A0 a).add 12) (.slice y.a y.len y.cap)/\∃ z:Sl,Cell b ((A0 a).add 13) (.slice z.a z.len z.cap)/\∃ a3:Bool,Cell b ((A0 a).add 14) (.bool a3)/\∃ a4:Int,Cell b ((A0 a).add 15) (.int .i64 a4)/\∃ a5:Int,Cell b ((A0 a).add 16) (.int .i64 a5)/\∃ A:Sl,Cell b ((A0 a).add 17) (.slice A.a A.len A.cap)/\∃ B:Sl,Cell b ((A0 a).add 18) (.slice B.a B.len B.cap)/\C_play_May a1 a2 a6 C a9 b7 c1 c2 c3 c4 u x y z a3 a4 a5 A B b fun d9 c=>If (!d9) ((XU (A0 a) (A0 t) K) [{ v := .iface 82 (.agg ([]).toArray),recovered:=false }] c) (∃ M:Int,Cell c (A0 a) (.int .i64 M)/\∃ N:Int,Cell c ((A0 a).add 1) (.int .i64 N)/\∃ O:Int,Cell c ((A0 a).add 2) (.int .u32 O)/\∃ e:Sl,Cell c ((A0 a).add 3) (.slice e.a e.len e.cap)/\∃ P:Int,Cell c ((A0 a).add 4) (.int .i64 P)/\∃ Q:Int,Cell c ((A0 a).add 5) (.int .i64 Q)/\∃ R:Int,Cell c ((A0 a).add 6) (.int .u64 R)/\∃ S:Int,Cell c ((A0 a).add 7) (.int .u64 S)/\∃ T:Int,Cell c ((A0 a).add 8) (.int .u64 T)/\∃ U:Int,Cell c ((A0 a).add 9) (.int .u8 U)/\∃ f:Sl,Cell c ((A0 a).add 10) (.slice f.a f.len f.cap)/\∃ g:Sl,Cell c ((A0 a).add 11) (.slice g.a g.len g.cap)/\∃ h:Sl,Cell c ((A0 a).add 12) (.slice h.a h.len h.cap)/\∃ i:Sl,Cell c ((A0 a).add 13) (.slice i.a i.len i.cap)/\∃ V:Bool,Cell c ((A0 a).add 14) (.bool V)/\∃ W:Int,Cell c ((A0 a).add 15) (.int .i64 W)/\∃ Y:Int,Cell c ((A0 a).add 16) (.int .i64 Y)/\∃ j:Sl,Cell c ((A0 a).add 17) (.slice j.a j.len j.cap)/\∃ k:Sl,Cell c ((A0 a).add 18) (.slice k.a k.len k.cap)/\StL c (A0 a) 19 [.int .i64 M, .int .i64 N, .int .u32 O, .slice e.a e.len e.cap, .int .i64 P, .int .i64 Q, .int .u64 R, .int .u64 S, .int .u64 T, .int .u8 U, .slice f.a f.len f.cap, .slice g.a g.len g.cap, .slice h.a h.len h.cap, .slice i.a i.len i.cap, .bool V, .int .i64 W, .int .i64 Y, .slice j.a j.len j.cap, .slice k.a k.len k.cap] fun e5=>St1 e5 (A0 t) (.int .i64 0) fun d=>∃ a7:Int,Cell d (A0 a) (.int .i64 a7)/\∃ a8:Int,Cell d ((A0 a).add 1) (.int .i64 a8)/\∃ b0:Int,Cell d ((A0 a).add 2) (.int .u32 b0)/\∃ D:Sl,Cell d ((A0 a).add 3) (.slice D.a D.len D.cap)/\∃ b1:Int,Cell d ((A0 a).add 4) (.int .i64 b1)/\∃ b2:Int,Cell d ((A0 a).add 5) (.int .i64 b2)/\∃ b3:Int,Cell d ((A0 a).add 6) (.int .u64 b3)/\∃ b4:Int,Cell d ((A0 a).add 7) (.int .u64 b4)/\∃ b5:Int,Cell d ((A0 a).add 8) (.int .u64 b5)/\∃ b6:Int,Cell d ((A0 a).add 9) (.int .u8 b6)/\∃ E:Sl,Cell d ((A0 a).add 10) (.slice E.a E.len E.cap)/\∃ F:Sl,Cell d ((A0 a).add 11) (.slice F.a F.len F.cap)/\∃ G:Sl,Cell d ((A0 a).add 12) (.slice G.a G.len G.cap)/\∃ H:Sl,Cell d ((A0 a).add 13) (.slice H.a H.len H.cap)/\∃ b8:Bool,Cell d ((A0 a).add 14) (.bool b8)/\∃ b9:Int,Cell d ((A0 a).add 15) (.int .i64 b9)/\∃ c0:Int,Cell d ((A0 a).add 16) (.int .i64 c0)/\∃ I:Sl,Cell d ((A0 a).add 17) (.slice I.a I.len I.cap)/\∃ J:Sl,Cell d ((A0 a).add 18) (.slice J.a J.len J.cap)/\∃ d7:Int,Cell d (A0 t) (.int .i64 d7)/\K a7 a8 b0 D b1 b2 b3 b4 b5 b6 E F G H b8 b9 c0 I J d7 d))) (XU (A0 a) (A0 t) K)
abbrev tys15:List Ty:=[.agg [.one (.int .i64), .one (.int .i64), .one (.int .u32), .one (.sl), .one (.int .i64), .one (.int .i64), .one (.int .u64), .one (.int .u64), .one (.int .u64), .one (.int .u8), .one (.sl), .one (.sl), .one (.sl), .one (.sl), .one (.bool), .one (.int .i64), .one (.int .i64), .one (.sl), .one (.sl)], .one (.int .i64)]
noncomputable abbrev fin15 (K:KUn) (ρ:Env) (w:Wd):Prop:=resW pz Tryz.f15.results.toList ρ w (fun vs=>getC tys15 vs K w)
theorem fin15_eq(K:KUn)(ρ:Env)(ra ea:Addr)(w:Wd):fin15 K (put (put ρ 2 (.pointer (some ra))) 3 (.pointer (some ea))) w=ResU ra ea K w:=by kernel_rfl
theorem S_play_Unline{s:ByteArray}{w:Wd}{K:KUn}(h:F_play_Unline s w K):C_play_Unline s w K:=by
 have e:F_play_Unline s w K=W15 (fin15 K) (fun ra ea=>XU ra ea K) [.string s] w:=by kernel_rfl
 rw [e] at h
 have h2:=w15_sound (R:=fun e w'=>exC tys15 K (fun vs Y=>e = .returned (tup vs)/\Y w')) (fun D ρ a w hr hq=>by
  obtain ⟨vs,h1,h2⟩:=results_run hr hq
  refine ⟨_,h1,?_⟩
  show exC tys15 K (fun us Y=>Ending.returned (tup vs) = .returned (tup us)/\Y w)
  exact exC_mono tys15 K (fun us X hh=>⟨by rw [hh.1],hh.2⟩) (getC_elim tys15 vs K w h2)) (fun ra ea c w' hx=>⟨hx.1,F41.mono hx.2 fun w h ρ h2 h3=>by
   rw [<- fin15_eq K ρ ra ea] at h
   rw [put_eq h2,put_eq h3] at h
   exact h⟩) rfl h
 have c:callK pz 15 #[.string s] tys15 K w=C_play_Unline s w K:=by kernel_rfl
 rw [<- c]
 exact h2
end Go.Proofs.YtimonamjecmlcaaGreatDoor
namespace Go.V
theorem mem_join_len{c:UInt8}:∀{W:List Bs}{x:Bs},x∈W->x.length<=(joinB c W).length
 | [x],y,h=>by rw [List.mem_singleton] at h; rw [h]; exact Nat.le_refl _
 | x::z::W,y,h=>by
  rw [joinB_cons c x (by simp),List.length_append,List.length_cons]
  rcases List.mem_cons.1 h with rfl | h
  .omega
  .have:=mem_join_len (c:=c) h; omega
theorem split_len{c:UInt8}{l x:Bs}(h:x∈splitB c l):x.length<=l.length:=by
 have:=mem_join_len (c:=c) h
 rw [joinB_split] at this; exact this
theorem split_sm{c:UInt8}{l:Bs}(h:l.length<=90000000):SmW (splitB c l):=by
 refine ⟨?_,fun x hx=>by have:=split_len hx; omega⟩
 have h1:=splitB_len c l
 have:=List.count_le_length (a:=c) (l:=l); omega
theorem rdFs_len:∀{fs:List FId}{W W':List Bs}{c c':CallP},rdFs fs W c=some (c',W')->c'.ops.length+W'.length<=c.ops.length+W.length
 | [],_,_,_,_,h=>by cases h; exact Nat.le_refl _
 | f::fs,W,W',c,c',h=>by
  rw [rdFs] at h
  split at h
  .rename_i c1 W1 h1; have:=rdF_len h1; have:=rdFs_len h; omega
  .cases h
theorem rdE_len{W W':List Bs}{e:EvP}(h:rdE W=some (e,W')):e.call.ops.length<=W.length:=by
 have mp:∀{α:Type}{o:Option (α×List Bs)}{f:α->EvP},(∀ a,(f a).call=callP0 0)->o.map (fun p=>(f p.1,p.2))=some (e,W')->e.call.ops.length<=W.length:=fun {α o f} hf h=>by
  cases o with
  | none=>cases h
  | some p=>cases h; rw [hf]; exact Nat.zero_le _
 cases W with
 | nil=>cases h
 | cons x W =>
  rw [rdE] at h
  split at h
  .exact mp (f:=fun n:Nat=>{ evP0 2 with n:=n }) (fun _=>rfl) h
  split at h
  .exact mp (f:=fun n:Nat=>{ evP0 3 with n:=n }) (fun _=>rfl) h
  split at h
  .exact mp (f:=fun n=>{ evP0 4 with masks:=n }) (fun _=>rfl) h
  split at h
  .cases h; exact Nat.zero_le _
  split at h
  .split at h
   .split at h
    .rename_i b _ _ _ n _ _
     exact mp (f:=fun l=>{ evP0 6 with block:=(b:Nat),n:=(n:Nat),bytes:=l }) (fun _=>rfl) h
    .cases h
   .cases h
  split at h
  .rename_i k fs hf
   cases hr:rdFs fs W (callP0 k) with
   | none=>rw [hr] at h; cases h
   | some p =>
    obtain ⟨a,b⟩:=p
    rw [hr] at h; cases h
    have h1:=rdFs_len hr
    have h2:(callP0 k).ops.length=0:=rfl
    show a.ops.length<=_
    rw [List.length_cons]; omega
  .cases h
abbrev evV0:EvV:=⟨0,callV0 0,0,0,⟨none,0,0⟩,⟨none,0,0⟩⟩
theorem EvR.zero(Q:Nat->Prop)(h:Array Obj):EvR Q h evV0 (evP0 0):=⟨rfl,CallR.zero _ _ 0,rfl,rfl,RdQ.nil _ _,RdQ.nil _ _⟩
end Go.V
namespace Go.Proofs.YtimonamjecmlcaaGreatDoor
open Go.V
abbrev KUn.at(K:KUn)(v:EvV)(n:Int)(w:Wd):Prop:=K v.kind v.call.kind v.call.tenant v.call.secret v.call.quota v.call.n v.call.handle v.call.other v.call.snap v.call.rights v.call.ops v.call.key v.call.frm v.call.upto v.call.back v.n v.block v.masks v.bytes n w
theorem ResU.mk{w:Wd}{b b1:Nat}{v:EvV}{n:Int}{K:KUn}(g:w.heap[b]? = some (.cells v.cells.toArray 32 (0,0)))(g1:w.heap[b1]? = some (.cells [.int .i64 n].toArray 36 (0,0)))(k:K.at v n w):ResU (Addr.mk b 0 none) (Addr.mk b1 0 none) K w :=
 ⟨v.kind,Cell.lst g rfl,v.call.kind,Cell.lst g rfl,v.call.tenant,Cell.lst g rfl,v.call.secret,Cell.lst g rfl,v.call.quota,Cell.lst g rfl,v.call.n,Cell.lst g rfl,v.call.handle,Cell.lst g rfl,v.call.other,Cell.lst g rfl,v.call.snap,Cell.lst g rfl,v.call.rights,Cell.lst g rfl,v.call.ops,Cell.lst g rfl,v.call.key,Cell.lst g rfl,v.call.frm,Cell.lst g rfl,v.call.upto,Cell.lst g rfl,v.call.back,Cell.lst g rfl,v.n,Cell.lst g rfl,v.block,Cell.lst g rfl,v.masks,Cell.lst g rfl,v.bytes,Cell.lst g rfl,n,Cell.lst g1 rfl,k⟩
section
variable {w:Wd}
theorem unline_spec{l:Bs}{K:KUn}(g:Gl w.heap)(h8:8<=w.heap.size)(hl:l.length<=2000000)(k0:∀ v e w',unE l=some e->EvR (w.heap.size<=·) w'.heap v e->RngC e.call->Ext No w w'->K.at v 0 w')
  (k1:∀ w',unE l=none->Ext No w w'->K.at evV0 5 w'):C_play_Unline (stB l) w K:=by
 apply S_play_Unline
 refine NewW.mk fun b w1 n1=>NewW.mk fun b1 w2 n2=>?_
 have hb:=n1.at_; have z1:=n1.size; have hb1:=n2.at_; have z2:=n2.size
 have x02:=n1.ext.no n2.ext
 refine split_spec (by omega) fun s w3 o3 x3=>NewW.mk fun br w4 n4=>?_
 have hbr:=n4.at_; have z4:=n4.size; have z3:=x3.size
 have x24:=x3.no n4.ext
 have x04:=x02.no x24
 have gb4:w4.heap[b]? = some (.cells evV0.cells.toArray 32 (0,0)):=get_no n1.get (n2.ext.no x24)
 have gb14:w4.heap[b1]? = some (.cells [.int .i64 0].toArray 36 (0,0)):=get_no n2.get x24
 have sm:SmW (splitB 32 l):=split_sm (by omega)
 have rd4:RdrR (fun q=>q≠br/\q < w4.heap.size) w4.heap br (splitB 32 l):=⟨s,n4.get,o3.rd.no n4.ext,fun _ q hq=>by have:=(o3.lt hq).2; exact ⟨by omega,by omega⟩⟩
 have bad:∀{w':Wd},Ext (fun q=>q=br∨q=b) w4 w'->(∃ v:EvV,w'.heap[b]? = some (.cells v.cells.toArray 32 (0,0)))->unE l=none->XU (Addr.mk b 0 none) (Addr.mk b1 0 none) K wrongP w':=fun {w'} x hbv hu=>by
  obtain ⟨v,gv⟩:=hbv
  have z':=x.size
  refine ⟨rfl,NewW.mk fun b5 w5 n5=>⟨rfl,StN.all n5.get rfl (by simp) fun w6 g6 x6 _=>⟨rfl,?_⟩⟩⟩
  have x6':Ext (·=b5) w5 w6:=x6
  have hb5:=n5.at_
  have x56:Ext No w' w6:=n5.ext.trans x6' fun q hq h=>by omega
  refine StN.all (get_no gv x56) rfl (EvV.one evV0) fun w7 g7 x7 _=>?_
  have x7':Ext (·=b) w6 w7:=x7
  have gb17:w7.heap[b1]? = some (.cells [.int .i64 0].toArray 36 (0,0)):=get_ext (get_no (get_ext gb14 x (by omega)) x56) x7' (by omega)
  refine St1.mk (o:=0) gb17 (by simp) rfl fun w8 h8=>?_
  have x8:Ext (·=b1) w7 w8:=h8.ext
  refine ResU.mk (v:=evV0) (n:=5) (get_ext g7 x8 (by omega)) (h8.get gb17) (k1 w8 hu ?_)
  exact (((x04.trans x fun q hq h=>by omega).no x56).trans x7' fun q hq h=>by omega).trans x8 fun q hq h=>by omega
 have g4:=g.no x04
 refine event_spec g4 (by omega) rd4 sm (fun v e W' w5 hr rl re x5=>⟨rfl,?_⟩) fun w5 hr x5=>bad (x5.mono fun _ _ h => .inl h) ⟨evV0,get_ext gb4 x5 (by omega)⟩ (by unfold unE; rw [hr])
 have z5:=x5.size
 refine StN.all (get_ext gb4 x5 (by omega)) rfl v.one fun w6 g6 x6 _=>Nn.mk ?_
 have x6':Ext (·=b) w5 w6:=x6
 have x46:Ext (fun q=>q=br∨q=b) w4 w6:=(x5.mono fun _ _ h => .inl h).trans x6' fun _ _ h => .inr h
 have x06:Ext No w w6:=x04.trans x46 fun q hq h=>by omega
 have z6:=x6'.size
 obtain ⟨sw,gw,lw⟩:=rl.ext x6' (by omega)
 refine ⟨sw,Cell.lst gw rfl,If.dec (fun hp=>bad x46 ⟨v,g6⟩ ?_) fun hp=>?_⟩
 .have hW:W'≠[]:=by rintro rfl; simp at lw; omega
  unfold unE
  rw [hr]
  cases W' with
  | nil=>exact (hW rfl).elim
  | cons y W'=>rfl
 have hW:W'=[]:=List.length_eq_zero_iff.1 (by omega)
 subst hW
 have re6:=re.ext x6' fun q hq h=>by omega
 have hops:=rdE_len hr
 have hsm:=sm.1
 have cells:∀{w':Wd}{K':KEv},w'.heap[b]? = some (.cells v.cells.toArray 32 (0,0))->K'.at v w'->CellsE w' b K':=fun g k=>CellsE.mk g k
 refine cells (K':=fun c c_1 c_2 c_3 c_4 c_5 c_6 c_7 c_8 c_9 c_10 c_11 c_12 c_13 c_14 c_15 c_16 c_17 c_18 w6=>C_play_May c c_1 c_2 c_3 c_4 c_5 c_6 c_7 c_8 c_9 c_10 c_11 c_12 c_13 c_14 c_15 c_16 c_17 c_18 w6 _) g6 ?_
 refine may_spec (g.no x06) (by omega) re6 (rdE_rng hr) (by omega) fun rm w7 hm x7=>If.not (If.cases (fun t=>?_) fun t=>bad (x46.no x7) ⟨v,get_no g6 x7⟩ ?_)
 .have may:=hm.1 t
  have hu:unE l=some e:=by unfold unE; rw [hr]; simp only [if_pos may]
  have g7:=get_no g6 x7
  refine CellsE.mk (K:=fun c_19 c_20 c_21 c_22 c_23 c_24 c_25 c_26 c_27 c_28 c_29 c_30 c_31 c_32 c_33 c_34 c_35 c_36 c_37 w7=>_=19/\StN w7 _ _ fun w8=>St1 w8 _ _ _) g7 ⟨rfl,?_⟩
  refine StN.all g7 rfl v.one fun w8 g8 x8 _=>?_
  have x8':Ext (·=b) w7 w8:=x8
  have gb18:w8.heap[b1]? = some (.cells [.int .i64 0].toArray 36 (0,0)):=get_ext (get_no (get_ext gb14 x46 (by omega)) x7) x8' (by omega)
  refine St1.mk (o:=0) gb18 (by simp) rfl fun w9 h9=>?_
  have x9:Ext (·=b1) w8 w9:=h9.ext
  have x69:Ext (fun q=>q=b∨q=b1) w6 w9:=((x7.mono fun _ _ h=>h.elim).trans x8' fun _ _ h => .inl h).trans x9 fun _ _ h => .inr h
  refine ResU.mk (n:=0) (get_ext g8 x9 (by omega)) (h9.get gb18) (k0 v e w9 hu ((re6.ext x69 fun q hq h=>by omega).mono fun q hq=>by omega) (rdE_rng hr) (x06.trans x69 fun q hq h=>by omega))
 .unfold unE
  rw [hr]
  have:¬ MayE e:=fun h=>by rw [hm.2 h] at t; cases t
  simp only [if_neg this]
end
end Go.Proofs.YtimonamjecmlcaaGreatDoor
namespace Go.V
abbrev evC(L:List (EvV×EvP)):List Value:=L.flatMap fun e=>e.1.cells
theorem evC_len(L:List (EvV×EvP)):∀ e∈L,e.1.cells.length=19:=fun _ _=>rfl
theorem evC_ne{L:List (EvV×EvP)}(h:evC L≠[]):L≠[]:=by rintro rfl; exact h rfl
def EvsR(Q:Nat->Prop)(h:Array Obj)(s:Sl)(l:List EvP):Prop:=∃ L:List (EvV×EvP),L.map Prod.snd=l/\Rd h s 19 (evC L)/\(L≠[]->∀ b,s.blk=some b->Q b)/\∀ e∈L,EvR Q h e.1 e.2
theorem EvsR.ext{Q S:Nat->Prop}{w w':Wd}{s:Sl}{l:List EvP}(r:EvsR Q w.heap s l)(x:Ext S w w')(h:∀ b,Q b->¬ S b):EvsR Q w'.heap s l:=by
 obtain ⟨L,h1,h2,h3,h4⟩:=r
 exact ⟨L,h1,h2.extQ x fun hne b hb=>h b (h3 (evC_ne hne) b hb),h3,fun e he=>(h4 e he).ext x h⟩
theorem EvsR.no{Q:Nat->Prop}{w w':Wd}{s:Sl}{l:List EvP}(r:EvsR Q w.heap s l)(x:Ext No w w'):EvsR Q w'.heap s l:=r.ext x fun _ _=>id
theorem EvsR.len{Q:Nat->Prop}{h:Array Obj}{s:Sl}{l:List EvP}(r:EvsR Q h s l):s.len=l.length:=by
 obtain ⟨L,h1,h2,h3,h4⟩:=r
 have:=h2.len
 rw [flat_len' (evC_len L)] at this
 rw [<- h1,List.length_map]; omega
theorem ixE{Q:Nat->Prop}{w:Wd}{s:Sl}{l:List EvP}{i:Int}{K:Addr->Prop}(r:EvsR Q w.heap s l)(h0:0<=i)(h1:i < (s.len:Int))
  (k:∀ b o (v:EvV) (hi:i.toNat < l.length),EvR Q w.heap v l[i.toNat]->(∀ j x,v.cells[j]? = some x->Cell w ⟨b,o+j,none⟩ x)->K ⟨b,o,none⟩):Ix s.a s.len i 19 K:=by
 obtain ⟨L,h2,h3,h4,h5⟩:=r
 refine Ix.elem (f:=fun e:EvV×EvP=>e.1.cells) h3 (evC_len L) (by decide) h0 h1 fun b o hi hb hc=>?_
 have hl:L.length=l.length:=by rw [<- h2,List.length_map]
 refine k b o L[i.toNat].1 (by omega) ?_ hc
 have e:l[i.toNat]'(by omega)=L[i.toNat].2:=by simp [<- h2]
 rw [e]; exact h5 _ (List.getElem_mem hi)
def linesB(l:List EvP):Bs:=l.flatMap fun e=>lineE e++[10]
theorem linesB_snoc(l:List EvP)(e:EvP):linesB (l++[e])=linesB l++(lineE e++[10]):=by simp [linesB]
open Classical in
noncomputable def textP (l:List EvP):Bs×Int:=if ∀ e∈l,MayE e then (if 500 < l.length∨1048576 < (linesB l).length then ([],3) else (linesB l,0)) else ([],2)
theorem words_sm{e:EvP}(h:MayE e)(rg:RngC e.call):(wordsE e).length<=2000/\∀ x∈wordsE e,x.length<=3000:=by
 have two:∀{a c:Bs},a.length<=3000->c.length<=3000->([a,c]).length<=2000/\∀ x∈[a,c],x.length<=3000:=fun h1 h2=>⟨by simp,fun x hx=>by
  simp only [List.mem_cons,List.not_mem_nil,or_false] at hx
  rcases hx with rfl | rfl
  .exact h1
  .exact h2⟩
 rcases h with h | h | h | h | h
 .obtain ⟨hk,hn,hm,⟨hb',hy⟩,g,hg,lb,hc⟩:=h
  rw [wordsE_1 hk hg]
  obtain ⟨k,ek,hf⟩:=formI_nat hg
  have lc:=lb.lim rg
  have h1:=telFs_len lc g.2
  have h2:=(formP_ok k g hf).2
  refine ⟨by rw [List.length_cons]; omega,fun x hx=>?_⟩
  rcases List.mem_cons.1 hx with rfl | hx
  .have:=formP_wd k g hf; omega
  .obtain ⟨f,_,hx⟩:=List.mem_flatMap.1 hx
   exact telF_sm lc f x hx
 .obtain ⟨hk,hc,hm,⟨hb',hy⟩,hn⟩:=h
  have hd:=decB_20 (u:=e.n.toNat) (by omega)
  rcases hk with hk | hk
  .rw [wordsE_2 hk]; exact two (by decide) (by omega)
  .rw [wordsE_3 hk]; exact two (by decide) (by omega)
 .obtain ⟨hk,hc,hn,⟨hb',hy⟩,hl,hm⟩:=h
  rw [wordsE_4 hk]
  refine two (by decide) ?_
  unfold maskW
  split
  .simp
  .rw [List.length_map]; omega
 .obtain ⟨hk,hc,hn,hm,hb',hy⟩:=h
  rw [wordsE_5 hk]
  exact ⟨by simp,fun x hx=>by rw [List.mem_singleton] at hx; rw [hx]; decide⟩
 .obtain ⟨hk,hc,hm,hn,hb',hy⟩:=h
  rw [wordsE_6 hk]
  have h1:=decB_20 (u:=e.block.toNat) (by omega)
  have h2:=decB_20 (u:=e.n.toNat) (by omega)
  have h3:=hexW_len (l:=e.bytes)
  refine ⟨by simp,fun x hx=>?_⟩
  simp only [List.mem_cons,List.not_mem_nil,or_false] at hx
  rcases hx with rfl | rfl | rfl | rfl
  .decide
  .omega
  .omega
  .omega
theorem line_len{e:EvP}(h:MayE e)(rg:RngC e.call):(lineE e).length<=7000000:=by
 obtain ⟨h1,h2⟩:=words_sm h rg
 obtain ⟨x,W,hw,_⟩:=words_hd h
 have h3:=joinB_len 32 (W:=wordsE e) (by rw [hw]; simp)
 have h4:=lenW_le h2
 have h5:(wordsE e).length * 3000<=2000 * 3000:=Nat.mul_le_mul_right _ h1
 unfold lineE; omega
end Go.V
namespace Go.Proofs.YtimonamjecmlcaaGreatDoor
open Go.V
section
variable {w:Wd} {Q:Nat->Prop}
theorem blen_spec{base b:Nat}{L:Bs}{K:Int->Wd->Prop}(h:BdR w.heap base b L)(k:K (L.length:Nat) w):C_strings_Builder_Len (some ⟨b,0,none⟩) w K:=by
 apply S_strings_Builder_Len
 obtain ⟨p,s,g,hp,o,hb⟩:=h
 have hl:s.len=L.length:=by have:=o.len; simp at this; exact this.symm
 refine Nn.mk ⟨s,Cell.lst g rfl,?_⟩
 rw [hl]; exact k
set_option maxHeartbeats 1000000 in
theorem text_spec{s:Sl}{l:List EvP}{K:ByteArray->Int->Wd->Prop}(g:Gl w.heap)(h8:8<=w.heap.size)(r:EvsR Q w.heap s l)(rg:∀ e∈l,RngC e.call)(hl:∀ e∈l,e.call.ops.length<=1000000000000000000)(hn:l.length<=1000000000000)
  (k:∀ w',Ext No w w'->K (stB (textP l).1) (textP l).2 w'):C_play_Text s w K:=by
 apply S_play_Text
 refine NewW.mk fun b w1 n1=>?_
 have hb:=n1.at_; have z1:=n1.size
 have hsl:=r.len
 have B1:BdR w1.heap w1.heap.size b []:=⟨none,⟨none,0,0⟩,n1.get, .inl rfl,Own.nil _ _ _ _,by omega⟩
 refine ⟨fun m t w'=>∃ (j:Nat) (B:Bs),t=j/\j<=l.length/\m=l.length - j/\(∀ e∈l.take j,MayE e)/\BdR w'.heap w1.heap.size b B/\B.length<=9000000/\(B=linesB (l.take j)∨(1048576 < B.length/\1048576 < (linesB (l.take j)).length))/\Ext (fun q=>q=b∨w1.heap.size<=q) w1 w',
  ⟨_,0,[],rfl,Nat.zero_le _,rfl,by simp,B1,by simp, .inl (by simp [linesB]),Ext.refl _ _⟩,?_⟩
 rintro _ m0 _ w2 ⟨j,B,rfl,hj,rfl,hm,hB,hBl,hBe,x2⟩
 have x02:Ext No w w2:=n1.ext.trans x2 fun q hq h=>by omega
 have z2:=x2.size
 refine If.dec (fun h=>?_) fun h=>?_
 .refine ixE (r.no x02) (by omega) h fun bb o v hi hr hc=>?_
  have hjl:j < l.length:=hi
  have el:l[((j:Nat):Int).toNat]'hi=l[j]:=rfl
  rw [el] at hr
  have hmem:l[j]∈l:=List.getElem_mem hjl
  have rge:=rg _ hmem; have hle:=hl _ hmem
  have tk:=take_snoc hjl
  have lsn:linesB (l.take (j+1))=linesB (l.take j)++(lineE l[j]++[10]):=by rw [tk,linesB_snoc]
  have mayAll:MayE l[j]->∀ e∈l.take (j+1),MayE e:=fun h e he=>by
   rw [tk] at he
   rcases List.mem_append.1 he with h1 | h1
   .exact hm e h1
   .rw [List.mem_singleton] at h1; rw [h1]; exact h
  generalize l[j]=e at *
  refine ⟨v.kind,hc 0 _ rfl,v.call.kind,hc 1 _ rfl,v.call.tenant,hc 2 _ rfl,v.call.secret,hc 3 _ rfl,v.call.quota,hc 4 _ rfl,v.call.n,hc 5 _ rfl,v.call.handle,hc 6 _ rfl,v.call.other,hc 7 _ rfl,v.call.snap,hc 8 _ rfl,v.call.rights,hc 9 _ rfl,v.call.ops,hc 10 _ rfl,v.call.key,hc 11 _ rfl,v.call.frm,hc 12 _ rfl,v.call.upto,hc 13 _ rfl,v.call.back,hc 14 _ rfl,v.n,hc 15 _ rfl,v.block,hc 16 _ rfl,v.masks,hc 17 _ rfl,v.bytes,hc 18 _ rfl,NewW.mk fun b1 w3 n3=>⟨rfl,StN.all n3.get rfl v.one fun w4 g4 x4 _=>?_⟩⟩
  have x4':Ext (·=b1) w3 w4:=x4
  have x24:Ext No w2 w4:=n3.ext.trans x4' fun q hq h=>by have:=n3.at_; omega
  have x04:=x02.no x24
  refine CellsE.mk (v:=v) (K:=fun c_19 c_20 c_21 c_22 c_23 c_24 c_25 c_26 c_27 c_28 c_29 c_30 c_31 c_32 c_33 c_34 c_35 c_36 c_37 w4=>C_play_Line c_19 c_20 c_21 c_22 c_23 c_24 c_25 c_26 c_27 c_28 c_29 c_30 c_31 c_32 c_33 c_34 c_35 c_36 c_37 w4 _) g4 ?_
  have hB4:=hB.no x24
  refine line_spec (g.no x04) (by have:=x04.size; omega) (hr.no x24) rge hle (fun w5 may x5=>?_) fun w5 may x5=>?_
  .have hB5:=hB4.no x5
   have x25:=x24.no x5
   have z5:=x25.size
   have hll:=line_len may rge
   refine If.bne (fun h=>absurd rfl h) fun _=>blen_spec hB5 (If.dec (fun hs=>⟨?_,?_⟩) fun hs=>Ar.i64 (by omega) ⟨l.length - (j+1),by omega,j+1,B,by omega,by omega,rfl,mayAll may,hB5,hBl, .inr ⟨by omega,?_⟩,x2.trans x25 fun _ _ h=>h.elim⟩)
   .rw [stB_size]
    show (((lineE e).length+1:Nat):Int)<=9223372036854775807
    omega
   .have e10:stB (lineE e)++(⟨#[10]⟩ : ByteArray)=stB (lineE e++[10]):=stB_app _ [10]
    rw [e10]
    refine wrStr_spec hB5 (by omega) (by rw [List.length_append,List.length_singleton]; omega) fun w6 B6 x6=>Ar.i64 (by omega) ⟨l.length - (j+1),by omega,j+1,_,by omega,by omega,rfl,mayAll may,B6,by simp only [List.length_append,List.length_singleton]; omega, .inl ?_,(x2.trans x25 fun _ _ h=>h.elim).trans x6 fun _ _ h=>h⟩
    rcases hBe with rfl | hBe
    .exact lsn.symm
    .omega
   .rw [lsn,List.length_append]
    rcases hBe with rfl | hBe <;> omega
  .refine If.bne (fun _=>?_) fun h=>absurd h (by decide)
   have:=k w5 (x04.no x5)
   unfold textP at this
   rw [if_neg fun hall=>may (hall e hmem)] at this
   exact this
 .have hjn:j=l.length:=by omega
  rw [hjn,List.take_length] at hm hBe
  have k2:∀ w',Ext No w w'->(1048576 < B.length ↔ 1048576 < (linesB l).length)->K (stB (if 500 < l.length∨1048576 < (linesB l).length then (([],3):Bs×Int) else (linesB l,0)).1) (if 500 < l.length∨1048576 < (linesB l).length then (([],3):Bs×Int) else (linesB l,0)).2 w':=fun w' x' _=>by
   have:=k w' x'
   unfold textP at this
   rw [if_pos hm] at this; exact this
  have hiff:1048576 < B.length ↔ 1048576 < (linesB l).length:=by
   rcases hBe with rfl | hBe
   .exact Iff.rfl
   .exact ⟨fun _=>hBe.2,fun _=>hBe.1⟩
  refine If.dec (fun h5=>?_) fun h5=>blen_spec hB (If.dec (fun h6=>?_) fun h6=>str_spec hB (by omega) fun w3 x3=>?_)
  .have:=k2 w2 x02 hiff
   rw [if_pos (.inl (by omega))] at this; exact this
  .have:=k2 w2 x02 hiff
   rw [if_pos (.inr (hiff.1 (by omega)))] at this; exact this
  .have hB0:B=linesB l:=by
    rcases hBe with h | h
    .exact h
    .omega
   subst hB0
   have:=k2 w3 (x02.trans x3 fun q hq h=>by omega) hiff
   rw [if_neg (by omega)] at this
   exact this
end
end Go.Proofs.YtimonamjecmlcaaGreatDoor
namespace Go.V
theorem u8_ofNat{n:Nat}(h:n < 256):(UInt8.ofNat n).toNat=n:=by simp; omega
theorem byV_one1{n:Nat}(h:n < 256):[Value.int .u8 ((n:Nat):Int)]=byV [UInt8.ofNat n]:=by
 simp only [byV,uB,List.map_cons,List.map_nil,u8_ofNat h]
def wordsL:List Bs:=[[],[99,114,101,97,116,101],[100,101,108,101,116,101],[116,117,114,110],[115,116,101,112],[102,105,110,105,115,104],[114,111,111,116],[116,101,110,97,110,116,115],[97,116,116,97,99,104],[103,105,118,101],[114,101,118,111,107,101],[98,97,116,99,104],[103,101,116],[115,99,97,110],[115,110,97,112],[114,101,108,101,97,115,101],[117,115,97,103,101]]
theorem wordsL_form:∀ k g,formP k=some g->wordsL[k]? = some g.1:=by
 intro k g h
 match k,h with
 | 1,h | 2,h | 3,h | 4,h | 5,h | 6,h | 7,h | 8,h | 9,h | 10,h | 11,h | 12,h | 13,h | 14,h | 15,h | 16,h=>cases h; rfl
 | 0,h=>cases h
 | n+17,h=>cases h
theorem foldl_take{α β:Type}(f:β->α->β)(l:List α)(b:β){j:Nat}(h:j < l.length):(l.take (j+1)).foldl f b=f ((l.take j).foldl f b) l[j]:=by
 have:l.take (j+1)=l.take j++[l[j]]:=by rw [List.take_add_one,List.getElem?_eq_getElem h]; rfl
 rw [this,List.foldl_append]; rfl
end Go.V
namespace Go.Proofs.YtimonamjecmlcaaGreatDoor
open Go.V
section
variable {w:Wd}
theorem rU_spec{n:Nat}{K:ByteArray->Wd->Prop}(h:n < 2 ^ 64)(k:∀ w',Ext No w w'->K (stB (decB n)) w'):C_ref29_U (n:Int) w K:=by
 apply S_ref29_U
 have dig:∀{a:Nat}{w1:Wd}{K':ByteArray->Wd->Prop},(∀ w',Ext No w1 w'->K' (stB [UInt8.ofNat (48+a % 10)]) w')->((10:Int)≠0/\Nm (Int.tmod (a:Int) 10) fun z=>Ar .u64 (48+z) fun z_1=>Ar .u8 z_1 fun z_2=>NewW w1 (.cells [.int .u8 z_2].toArray 5) fun b w1=>StrC (Cell w1) ⟨some (Addr.mk b 0 none),1,1⟩ fun str=>K' str w1):=fun {a w1 K'} k'=>by
  refine ⟨by decide,Nm.as (tmod_nat a 10) (Ar.u64 (by omega) (Ar.u8 (by omega) ?_))⟩
  rw [show (48+((a % 10:Nat):Int))=((48+a % 10:Nat):Int) by omega,byV_one1 (by omega)]
  refine NewW.mk fun b w2 n2=>?_
  have o2:OwnB w2.heap w1.heap.size ⟨some ⟨b,0,none⟩,1,1⟩ [UInt8.ofNat (48+a % 10)]:=Own.new n2 rfl (byV_one _)
  exact strB o2.rd (fun _ _ _ h=>Cell.mk h) (k' w2 n2.ext)
 refine dig fun w1 x1=>?_
 refine ⟨fun m n_1 s w'=>∃ (a:Nat) (t:Bs),n_1=a/\s=stB t/\m=a/\a < 2 ^ 64/\t.length+(if a≥10 then (decB (a / 10)).length else 0)<=20/\decB n=(if a≥10 then decB (a / 10) else [])++t/\Ext No w w',⟨n,n,_,rfl,rfl,rfl,h,?_,?_,x1⟩,?_⟩
 .have:=decB_20 (u:=n / 10) (by omega)
  split
  .rename_i h10
   have h1:=decB_20 h
   rw [decB_ge h10] at h1
   simp only [List.length_append,List.length_singleton] at h1 ⊢; omega
  .simp
 .split
  .rename_i h10; exact decB_ge h10
  .rename_i h10
   rw [decB_lt (by omega),List.nil_append,Nat.mod_eq_of_lt (by omega)]
 rintro _ m0 _ _ w2 ⟨a,t,rfl,rfl,hm0,ha,htl,hd,x2⟩
 refine If.dec (fun h10=>?_) fun h10=>?_
 .have h10':a≥10:=by omega
  rw [if_pos h10'] at hd htl
  have e:Int.tdiv (a:Int) 10=((a / 10:Nat):Int):=tdiv_nat a 10
  rw [e]
  refine ⟨by decide,Ar.u64 (by omega) (dig fun w3 x3=>⟨?_,?_⟩)⟩
  .rw [stB_size,stB_size]
   show (((1+t.length:Nat)):Int)<=9223372036854775807
   omega
  .refine ⟨a / 10,by omega,a / 10,[UInt8.ofNat (48+a / 10 % 10)]++t,rfl,stB_app _ _,rfl,by omega,?_,?_,x2.no x3⟩
   .split
    .rename_i h100
     rw [decB_ge h100] at htl
     simp only [List.length_append,List.length_singleton] at htl ⊢; omega
    .rename_i h100
     have:1<=(decB (a / 10)).length:=List.length_pos_iff.2 (decB_ne _)
     simp only [List.length_append,List.length_singleton]; omega
   .rw [hd]
    split
    .rename_i h100; rw [decB_ge h100,List.append_assoc]
    .rename_i h100
     rw [decB_lt (by omega),List.nil_append,Nat.mod_eq_of_lt (by omega:a / 10 < 10)]
 .rw [if_neg (by omega),List.nil_append] at hd
  rw [<- hd]; exact k w2 x2
theorem rHex_spec{s:Sl}{l:Bs}{K:ByteArray->Wd->Prop}(r:RdB w.heap s l)(hl:l.length<=100000000)(k:∀ w',Ext No w w'->K (stB (hexW l)) w'):C_ref29_Hex s w K:=by
 apply S_ref29_Hex
 have hs:=RdB.len r
 refine If.beq (fun h=>?_) fun h=>?_
 .have:l=[]:=List.length_eq_zero_iff.1 (by omega)
  subst this; exact k w (Ext.refl _ _)
 have hne:l≠[]:=by intro e; subst e; simp at hs; omega
 unfold hexW at k
 rw [if_neg hne] at k
 refine ⟨fun m s' t w'=>∃ j:Nat,t=j/\j<=l.length/\m=l.length - j/\OwnB w'.heap w.heap.size s' (hexB (l.take j))/\Ext No w w',⟨_,0,rfl,Nat.zero_le _,rfl,Own.nil _ _ _ _,Ext.refl _ _⟩,?_⟩
 rintro _ m0 s' _ w2 ⟨j,rfl,hj,rfl,o2,x2⟩
 have hl2:=OwnB.len o2
 rw [hexB_len,List.length_take,Nat.min_eq_left hj] at hl2
 refine If.dec (fun h=>?_) fun h=>?_
 .have r2:=r.no x2
  refine ⟨Ext (fun q=>s'.blk=some q) w2,(Ext.refl _ _).drew,ixB r2 (by omega) h fun b o hi hb hc=>?_⟩
  have hbs:¬ s'.blk=some b:=fun hh=>by have h1:=(o2.lt hh).1; have:=Rd.lt r (by simpa using hne) hb; omega
  have hjl:j < l.length:=by simpa using hi
  have hv:(l[((j:Nat):Int).toNat]'hi)=l[j]:=rfl
  have hc0:=hc
  rw [hv] at hc0
  have hbn:=(l[j]).toNat_lt
  have htk:hexB (l.take (j+1))=hexB (l.take j)++[hexD ((l[j]).toNat / 16),hexD ((l[j]).toNat % 16)]:=by rw [take_snoc hjl,hexB_app]; rfl
  generalize hcc:l[j]=c at *
  refine ⟨_,Held.but hc0 hbs,by decide,?_⟩
  have e1:Int.tdiv (c.toNat:Int) 16=((c.toNat / 16:Nat):Int):=tdiv_nat _ 16
  rw [e1]
  refine Ar.u8 (by omega) ⟨hexD (c.toNat / 16),by omega,?_,ixB r2 (by omega) h fun b' o' hi' hb' hc'=>?_⟩
  .rw [Int.toNat_natCast]; exact hx_at ⟨c.toNat / 16,by omega⟩
  have hbs':¬ s'.blk=some b':=fun hh=>by have h1:=(o2.lt hh).1; have:=Rd.lt r (by simpa using hne) hb'; omega
  have hv':(l[((j:Nat):Int).toNat]'hi')=c:=hcc
  rw [hv'] at hc'
  refine ⟨_,Held.but hc' hbs',by decide,Nm.as (tmod_nat _ 16) ⟨hexD (c.toNat % 16),by omega,?_,NewW.mk fun b3 w3 n3=>?_⟩⟩
  .rw [Int.toNat_natCast]; exact hx_at ⟨c.toNat % 16,by omega⟩
  have x3:Ext No w2 w3:=n3.ext.drew_left
  have o3:=o2.no x3
  have s3:OwnB w3.heap (drewW w2).heap.size ⟨some ⟨b3,0,none⟩,2,2⟩ [hexD (c.toNat / 16),hexD (c.toNat % 16)]:=Own.new n3 rfl (byV_one _)
  refine ⟨x3.of_no,app_uint8 o3 (by have:=(x2.no x3).size; omega) s3.rd.src (by simp only; omega) fun s4 w4 o4 l4 x4 _=>⟨x3.of_no.trans x4 fun _ _ h=>h,Ar.i64 (by omega) ⟨_,by omega,j+1,by omega,by omega,rfl,?_,?_⟩⟩⟩
  .rw [<- byV_app] at o4; rw [htk]; exact o4
  .exact (x2.no x3).trans x4 fun q hq h=>by have:=(o3.lt h).1; omega
 .have hjn:j=l.length:=by omega
  rw [hjn,List.take_length] at o2
  exact strB o2.rd (fun _ _ _ h=>Cell.mk h) (k w2 x2)
theorem rmasks_spec{s:Sl}{l:Bs}{K:ByteArray->Wd->Prop}(r:RdB w.heap s l)(hl:l.length<=100000000)(hm:∀ m∈l,m.toNat<=15)(k:∀ w',Ext No w w'->K (stB (maskW l)) w'):C_ref29_masks s w K:=by
 apply S_ref29_masks
 have hs:=RdB.len r
 refine If.beq (fun h=>?_) fun h=>?_
 .have:l=[]:=List.length_eq_zero_iff.1 (by omega)
  subst this; exact k w (Ext.refl _ _)
 have hne:l≠[]:=by intro e; subst e; simp at hs; omega
 unfold maskW at k
 rw [if_neg hne] at k
 refine ⟨fun m s' t w'=>∃ j:Nat,t=j/\j<=l.length/\m=l.length - j/\OwnB w'.heap w.heap.size s' ((l.take j).map fun m=>hexD m.toNat)/\Ext No w w',⟨_,0,rfl,Nat.zero_le _,rfl,Own.nil _ _ _ _,Ext.refl _ _⟩,?_⟩
 rintro _ m0 s' _ w2 ⟨j,rfl,hj,rfl,o2,x2⟩
 have hl2:=OwnB.len o2
 rw [List.length_map,List.length_take,Nat.min_eq_left hj] at hl2
 refine If.dec (fun h=>?_) fun h=>?_
 .refine ixB (r.no x2) (by omega) h fun b o hi hb hc=>⟨_,hc,by decide,?_⟩
  have hjl:j < l.length:=by simpa using hi
  have hv:(l[((j:Nat):Int).toNat]'hi)=l[j]:=rfl
  have tk:=take_snoc hjl
  have hmj:=hm _ (List.getElem_mem hjl)
  rw [hv]
  generalize l[j]=c at *
  refine Nm.as (tmod_nat _ 16) ⟨hexD c.toNat,by omega,?_,NewW.mk fun b3 w3 n3=>?_⟩
  .rw [Int.toNat_natCast,Nat.mod_eq_of_lt (by omega)]; exact hx_at ⟨c.toNat,by omega⟩
  have x3:Ext No w2 w3:=n3.ext
  have o3:=o2.no x3
  have s3:OwnB w3.heap w2.heap.size ⟨some ⟨b3,0,none⟩,1,1⟩ [hexD c.toNat]:=Own.new n3 rfl (byV_one _)
  refine app_uint8 o3 (by have:=(x2.no x3).size; omega) s3.rd.src (by simp only; omega) fun s4 w4 o4 l4 x4 _=>Ar.i64 (by omega) ⟨_,by omega,j+1,by omega,by omega,rfl,?_,?_⟩
  .rw [tk,List.map_append]; rw [<- byV_app] at o4; exact o4
  .exact (x2.no x3).trans x4 fun q hq h=>by have:=(o3.lt h).1; omega
 .have hjn:j=l.length:=by omega
  rw [hjn,List.take_length] at o2
  exact strB o2.rd (fun _ _ _ h=>Cell.mk h) (k w2 x2)
theorem rword_spec{k:Nat}{x:Bs}{K:ByteArray->Wd->Prop}(hk:wordsL[k]? = some x)(kk:∀ w',Ext No w w'->K (stB x) w'):C_ref29_word (k:Int) w K:=by
 apply S_ref29_word
 refine NewW.mk fun b w1 n1=>?_
 have o:OwnW w1.heap w.heap.size ⟨some ⟨b,0,none⟩,17,17⟩ wordsL:=Own.new (cs:=strW wordsL) n1 rfl (strW_one _)
 have hk17:k < 17:=(List.getElem?_eq_some_iff.1 hk).1
 refine ixW (s:=⟨some ⟨b,0,none⟩,17,17⟩) o.rd (by omega) (by show (k:Int) < ((17:Nat):Int); omega) fun b2 o2 hi _ hc=>⟨_,hc,?_⟩
 have:wordsL[((k:Nat):Int).toNat]'hi=x:=by
  have:=(List.getElem?_eq_some_iff.1 hk).2; exact this
 rw [this]; exact kk w1 n1.ext
theorem ru_spec{s:Bs}{K:Int->Wd->Prop}(k:K (uD s:Nat) w):C_ref29_u (stB s) w K:=by
 apply S_ref29_u
 unfold F_ref29_u
 simp only [stB_size]
 refine ⟨fun m n i w'=>∃ j:Nat,i=j/\j<=s.length/\j<=20/\m=20 - j/\n=((s.take j).foldl uStep 0:Nat)/\w'=w,⟨_,0,rfl,Nat.zero_le _,by omega,rfl,by simp,rfl⟩,?_⟩
 rintro _ m0 _ _ w ⟨j,rfl,hj,h20,rfl,rfl,rfl⟩
 have fin:(s.length<=j∨20<=j)->K (((s.take j).foldl uStep 0:Nat)) w:=fun h=>by
  have e:s.take j=s.take 20:=by
   rcases h with h | h
   .rw [List.take_of_length_le h,List.take_of_length_le (by omega)]
   .rw [show j=20 by omega]
  rw [e]; exact k
 refine ⟨fun w'=>w'=w/\j < s.length/\j < 20,If.dec (fun h=>If.dec (fun h2=>⟨rfl,by omega,by omega⟩) fun h2=>fin (.inr (by omega))) fun h=>fin (.inl (by omega)),?_⟩
 rintro _ w1 ⟨rfl,h1,h2⟩
 refine Ar.u64m (ixS (by omega) (by omega) (Ar.u8m ?_))
 have hv:(s[((j:Nat):Int).toNat]'(by omega))=s[j]:=rfl
 rw [hv]
 have ft:=foldl_take uStep s 0 h1
 generalize (s.take j).foldl uStep 0=n at *
 have hc:=(s[j]).toNat_lt
 generalize s[j]=c at *
 refine Ar.u64 (by omega) (Ar.u64m (Ar.i64 (by omega) ⟨_,by omega,j+1,by omega,by omega,by omega,rfl,?_,rfl⟩))
 rw [ft]
 unfold uStep
 omega
theorem rsmall_spec{s:Bs}{B:Nat}{K:Int->Wd->Prop}(hB:B<=64)(k:K (smallD B s:Nat) w):C_ref29_small (stB s) (B:Int) w K:=by
 apply S_ref29_small
 refine ru_spec ⟨by omega,?_⟩
 rw [Int.toNat_natCast]
 refine Nm.as (fdiv_nat (k:=B) hB) ?_
 unfold smallD at k
 refine If.bne (fun h=>?_) fun h=>?_
 .rw [if_neg (by omega)] at k; exact k
 .rw [if_pos (by omega)] at k; exact k
theorem rnum_spec{s:Bs}{K:Int->Wd->Prop}(k:K (numD s:Nat) w):C_ref29_num (stB s) w K:=by
 apply S_ref29_num
 refine ru_spec ?_
 rw [stB_size]
 unfold numD at k
 refine If.dec (fun h=>?_) fun h=>If.dec (fun h2=>?_) fun h2=>Ar.i64 (by omega) ?_
 .rw [if_pos (.inl (by omega))] at k; exact k
 .rw [if_pos (.inr (by omega))] at k; exact k
 .rw [if_neg (by omega)] at k; exact k
theorem rat_spec{s:Sl}{W:List Bs}{i:Nat}{K:ByteArray->Wd->Prop}(r:RdW w.heap s W)(k:K (stB (atD W i)) w):C_ref29_at s (i:Int) w K:=by
 apply S_ref29_at
 have hs:=RdW.len r
 refine If.dec (fun h=>ixW r (by omega) h fun b o hi _ hc=>⟨_,hc,?_⟩) fun h=>?_
 .have e:atD W i=W[((i:Nat):Int).toNat]'hi:=by unfold atD; rw [List.getD_eq_getElem?_getD,List.getElem?_eq_getElem (by omega)]; rfl
  rw [e] at k; exact k
 .have e:atD W i=[]:=by unfold atD; rw [List.getD_eq_getElem?_getD,List.getElem?_eq_none (by omega)]; rfl
  rw [e] at k; exact k
theorem rdigit_spec{c:UInt8}{K:Int->Wd->Prop}(k:K (d16 c:Nat) w):C_ref29_digit (c.toNat:Int) w K:=by
 apply S_ref29_digit
 refine ⟨fun m i w'=>∃ j:Nat,i=j/\j<=16/\m=16 - j/\(∀ n,n < j->hexD n≠c)/\w'=w,⟨_,0,rfl,Nat.zero_le _,rfl,by omega,rfl⟩,?_⟩
 rintro _ m0 _ w ⟨j,rfl,hj,rfl,hn,rfl⟩
 refine If.dec (fun h=>⟨hexD j,by omega,?_,If.beq (fun h2=>Ar.u8 (by omega) ?_) fun h2=>Ar.i64 (by omega) ⟨_,by omega,j+1,by omega,by omega,rfl,fun n hlt=>?_,rfl⟩⟩) fun h=>?_
 .rw [Int.toNat_natCast]; exact hx_at ⟨j,by omega⟩
 .have e:hexD j=c:=UInt8.toNat_inj.1 (by omega)
  have e2:dgt c=j:=by rw [<- e]; exact dgt_hexD ⟨j,by omega⟩
  have e3:d16 c=j:=by rw [d16_of (by omega),e2]
  rw [e3] at k; exact k
 .by_cases e:n=j
  .subst e; rintro rfl; exact h2 rfl
  .exact hn n (by omega)
 .have e:d16 c=0:=by
   unfold d16
   rw [if_neg]
   intro h3
   exact hn (dgt c) (by omega) (hexD_dgt h3)
  rw [e] at k; exact k
theorem rhex_spec{l:Bs}{K:Sl->Wd->Prop}(hl:l.length<=100000000)(k:∀ s w',OwnB w'.heap w.heap.size s (hxD l)->Ext No w w'->K s w'):C_ref29_hex (stB l) w K:=by
 apply S_ref29_hex
 unfold F_ref29_hex
 simp only [stB_size]
 refine ⟨fun m b i w'=>∃ q:Nat,i=(2 * q:Nat)/\2 * q<=l.length/\m=l.length - 2 * q/\OwnB w'.heap w.heap.size b (pairsB d16 (l.take (2 * q)))/\Ext No w w',⟨_,0,rfl,Nat.zero_le _,rfl,Own.nil _ _ _ _,Ext.refl _ _⟩,?_⟩
 rintro _ m1 b2 _ w3 ⟨q,rfl,hq,rfl,o3,x3⟩
 have hl3:=OwnB.len o3
 rw [pairsB_len,List.length_take,Nat.min_eq_left hq] at hl3
 refine Ar.i64 (by omega) (If.dec (fun h3=>⟨fun _=>True,trivial,ixS (by omega) (by omega) (Ar.i64 (by omega) (ixS (by omega) (by omega) (rdigit_spec ⟨trivial,?_⟩)))⟩) fun h3=>?_)
 .have h4:2 * q < l.length:=by omega
  have h5:2 * q+1 < l.length:=by omega
  have e1:(l[((2 * q:Nat):Int).toNat]'(by omega))=l[2 * q]:=rfl
  have e2:(l[(((2 * q:Nat):Int)+1).toNat]'(by omega))=l[2 * q+1]:=rfl
  rw [e1,e2]
  have htk:pairsB d16 (l.take (2 * (q+1)))=pairsB d16 (l.take (2 * q))++[UInt8.ofNat (d16 l[2 * q] * 16+d16 l[2 * q+1])]:=by
   rw [show 2 * (q+1)=2 * q+1+1 by omega,take_snoc h5,take_snoc h4,List.append_assoc,pairsB_app _ _ _ (by rw [List.length_take,Nat.min_eq_left hq]; omega)]; rfl
  have d1:=d16_lt l[2 * q]; have d2:=d16_lt l[2 * q+1]
  generalize l[2 * q]=a at *
  generalize l[2 * q+1]=c at *
  refine Ar.u8 (by omega) (rdigit_spec ⟨trivial,Ar.u8 (by omega) ?_⟩)
  rw [show ((d16 a:Nat):Int) * 16+((d16 c:Nat):Int)=((d16 a * 16+d16 c:Nat):Int) by omega,byV_one1 (by omega)]
  refine NewW.mk fun b4 w4 n4=>⟨trivial,?_⟩
  have x4:Ext No w3 w4:=n4.ext.drew_left
  have o4:=o3.no x4
  have s4:OwnB w4.heap (drewW w3).heap.size ⟨some ⟨b4,0,none⟩,1,1⟩ [UInt8.ofNat (d16 a * 16+d16 c)]:=Own.new n4 rfl (byV_one _)
  refine app_uint8 o4 (by have:=(x3.no x4).size; omega) s4.rd.src (by simp only; omega) fun s5 w5 o5 l5 x5 _=>⟨trivial,Ar.i64 (by omega) ⟨_,by omega,q+1,by omega,by omega,rfl,?_,?_⟩⟩
  .rw [<- byV_app] at o5; rw [htk]; exact o5
  .exact (x3.no x4).trans x5 fun p hp h=>by have:=(o4.lt h).1; omega
 .have e:pairsB d16 l=pairsB d16 (l.take (2 * q)):=by
   rcases Nat.lt_or_ge (2 * q) l.length with h4 | h4
   .have hlen:l.length=2 * q+1:=by omega
    conv=>lhs; rw [<- List.take_append_drop (2 * q) l]
    rw [pairsB_app _ _ _ (by rw [List.length_take,Nat.min_eq_left hq]; omega)]
    have:(l.drop (2 * q)).length=1:=by rw [List.length_drop]; omega
    match l.drop (2 * q),this with
    | [x],_=>simp [pairsB]
   .rw [List.take_of_length_le h4]
  exact k b2 w3 (by unfold hxD; rw [e]; exact o3) x3
theorem rCut_spec{l:Bs}{c:UInt8}{K:Sl->Wd->Prop}(hl:l.length<=100000000)(k:∀ s w',OwnW w'.heap w.heap.size s (splitB c l)->Ext No w w'->K s w'):C_ref29_Cut (stB l) (c.toNat:Int) w K:=by
 apply S_ref29_Cut
 unfold F_ref29_Cut
 simp only [stB_size]
 refine ⟨fun m s f i w'=>∃ (j a:Nat) (W:List Bs),i=j/\f=a/\a<=j/\j<=l.length/\m=l.length - j/\OwnW w'.heap w.heap.size s W/\W.length<=j/\splitB c l=W++splitB c (l.drop a)/\c ∉ (l.drop a).take (j - a)/\Ext No w w',⟨_,0,0,[],rfl,rfl,Nat.le_refl _,Nat.zero_le _,rfl,Own.nil _ _ _ _,by simp,by simp,by simp,Ext.refl _ _⟩,?_⟩
 rintro _ m0 s _ _ w1 ⟨j,a,W,rfl,rfl,haj,hj,rfl,o1,hWl,hsp,hno,x1⟩
 have hWs:=OwnW.len o1
 have push:∀{x:Bs}{K':Sl->Wd->Prop},(∀ s' w',OwnW w'.heap w.heap.size s' (W++[x])->Ext No w w'->K' s' w')->NewW w1 (.cells [.string (stB x)].toArray 9) fun b_1 w2=>AppW pz 56 56 s (.slice (some (Addr.mk b_1 0 none)) 1 1) K' w2:=fun {x K'} k'=>by
  refine NewW.mk fun b w2 n2=>?_
  have o2:=o1.no n2.ext
  have s2:OwnW w2.heap w1.heap.size ⟨some ⟨b,0,none⟩,1,1⟩ [x]:=Own.new (cs:=strW [x]) n2 rfl (strW_one _)
  refine app_string o2 (by have:=(x1.no n2.ext).size; omega) s2.rd.src (by simp only; omega) fun s3 w3 o3 l3 x3 _=>k' s3 w3 ?_ ((x1.no n2.ext).trans x3 fun q hq h=>by have:=(o2.lt h).1; omega)
  rw [<- List.map_append] at o3; exact o3
 refine If.dec (fun h=>ixS (by omega) (by omega) ?_) fun h=>?_
 .have hjl:j < l.length:=by omega
  have hv:(l[((j:Nat):Int).toNat]'(by omega))=l[j]:=rfl
  rw [hv]
  refine If.beq (fun he=>?_) fun he=>?_
  .have hc:l[j]=c:=UInt8.toNat_inj.1 (by omega)
   refine CutS.mk (by omega) (by omega) (by omega) ?_
   rw [Int.toNat_natCast,Int.toNat_natCast]
   refine push fun s3 w3 o3 x3=>Ar.i64 (by omega) (Ar.i64 (by omega) ⟨l.length - (j+1),by omega,j+1,j+1,_,by omega,by omega,Nat.le_refl _,by omega,rfl,o3,by rw [List.length_append,List.length_singleton]; omega,?_,by simp,x3⟩)
   have e:l.drop a=(l.drop a).take (j - a)++c::l.drop (j+1):=by
    conv=>lhs; rw [<- List.take_append_drop (j - a) (l.drop a)]
    rw [List.drop_drop,show a+(j - a)=j by omega,List.drop_eq_getElem_cons hjl,hc]
   rw [hsp,e,splitB_app hno,List.append_assoc]
   rw [<- e]; rfl
  .refine Ar.i64 (by omega) ⟨l.length - (j+1),by omega,j+1,a,W,by omega,rfl,by omega,by omega,rfl,o1,by omega,hsp,?_,x1⟩
   have hja:j - a < (l.drop a).length:=by rw [List.length_drop]; omega
   rw [show j+1 - a=(j - a)+1 by omega,take_snoc hja]
   intro hm
   rcases List.mem_append.1 hm with h1 | h1
   .exact hno h1
   .rw [List.mem_singleton,List.getElem_drop] at h1
    apply he
    have:l[a+(j - a)]=l[j]:=by congr 1; omega
    rw [this] at h1; rw [h1]
 .have hjn:j=l.length:=by omega
  refine CutS.mk (by omega) (by omega) (Int.le_refl _) ?_
  rw [Int.toNat_natCast,Int.toNat_natCast]
  have e:(l.drop a).take (l.length - a)=l.drop a:=List.take_of_length_le (by rw [List.length_drop]; omega)
  rw [e]
  rw [hjn,e] at hno
  refine push fun s3 w3 o3 x3=>k s3 w3 ?_ x3
  rw [hsp,splitB_no hno]; exact o3
end
end Go.Proofs.YtimonamjecmlcaaGreatDoor
namespace Go.V
theorem evP_ext{a b:EvP}(h1:a.kind=b.kind)(h2:a.call=b.call)(h3:a.n=b.n)(h4:a.block=b.block)(h5:a.masks=b.masks)(h6:a.bytes=b.bytes):a=b:=by
 cases a; cases b; simp only at *; subst_vars; rfl
theorem opP_ext{a b:OpP}(h1:a.key=b.key)(h2:a.val=b.val)(h3:a.drop=b.drop):a=b:=by
 cases a; cases b; simp only at *; subst_vars; rfl
end Go.V
namespace Go.Proofs.YtimonamjecmlcaaGreatDoor
open Go.V
section
variable {w:Wd} {Q Q':Nat->Prop}
theorem strH{w:Wd}{s:Sl}{l:Bs}{K:ByteArray->Prop}(h:RdB w.heap s l)(k:K (stB l)):StrC (Held (Ext No w)) s K:=strB h (fun _ _ _ h=>Held.cell (Cell.mk h)) k
theorem strD{w:Wd}{s:Sl}{l:Bs}{K:ByteArray->Prop}(h:RdB w.heap s l)(k:K (stB l)):StrC (Cell w) s K:=strB h (fun _ _ _ h=>Cell.mk h) k
set_option maxHeartbeats 1000000 in
theorem rsameOps_spec{x y:Sl}{a b:List OpP}{K:Bool->Wd->Prop}(ra:OpsR Q w.heap x a)(rb:OpsR Q' w.heap y b)(hl:a.length<=1000000000000000000)(k:∀ r w',(r=true ↔ a=b)->Ext No w w'->K r w'):C_ref29_sameOps x y w K:=by
 apply S_ref29_sameOps
 have la:=OpsR.len ra; have lb:=OpsR.len rb
 obtain ⟨L,hL,r1,q1,h1⟩:=ra
 obtain ⟨M,hM,r2,q2,h2⟩:=rb
 have hLl:L.length=a.length:=by rw [<- hL,List.length_map]
 have hMl:M.length=b.length:=by rw [<- hM,List.length_map]
 refine If.bne (fun hne=>k _ _ ⟨(fun h=>by cases h),fun h=>by rw [h] at la; omega⟩ (Ext.refl _ _)) fun heq=>?_
 have hab:a.length=b.length:=by omega
 refine ⟨fun m t w'=>∃ j:Nat,t=j/\j<=a.length/\m=a.length - j/\a.take j=b.take j/\Ext No w w',⟨_,0,rfl,Nat.zero_le _,rfl,by simp,Ext.refl _ _⟩,?_⟩
 rintro _ m0 _ w1 ⟨j,rfl,hj,rfl,he,x1⟩
 have xd:Ext No w (drewW w1):=x1.drew
 refine If.dec (fun h=>?_) fun h=>?_
 .have hjL:j < L.length:=by omega
  have hjM:j < M.length:=by omega
  have opL:=(h1 L[j] (List.getElem_mem hjL)).ext x1 fun _ _=>id
  have opM:=(h2 M[j] (List.getElem_mem hjM)).ext x1 fun _ _=>id
  have ea:a[j]'(by omega)=L[j].2:=by simp [<- hL]
  have eb:b[j]'(by omega)=M[j].2:=by simp [<- hM]
  have ta:=take_snoc (l:=a) (j:=j) (by omega)
  have tb:=take_snoc (l:=b) (j:=j) (by omega)
  rw [ea] at ta; rw [eb] at tb
  have ixL:∀{K':Addr->Prop},(∀ b1 o1,(∀ i v,(L[j].1.cells)[i]? = some v->Held (Ext No w1) ⟨b1,o1+i,none⟩ v)->K' ⟨b1,o1,none⟩)->Ix x.a x.len ((j:Nat):Int) 3 K':=fun k' =>
   Ix.elem (f:=fun e:OpV×OpP=>e.1.cells) (r1.no x1) (opC_len L) (by decide) (by omega) h fun b1 o1 i1 hb1 c1=>k' b1 o1 fun i v hv=>Held.cell (c1 i v hv)
  have ixM:∀{K':Addr->Prop},(∀ b1 o1,(∀ i v,(M[j].1.cells)[i]? = some v->Held (Ext No w1) ⟨b1,o1+i,none⟩ v)->K' ⟨b1,o1,none⟩)->Ix y.a y.len ((j:Nat):Int) 3 K':=fun k' =>
   Ix.elem (f:=fun e:OpV×OpP=>e.1.cells) (r2.no x1) (opC_len M) (by decide) (by omega) (by omega) fun b1 o1 i1 hb1 c1=>k' b1 o1 fun i v hv=>Held.cell (c1 i v hv)
  have no:¬ L[j].2=M[j].2->K false (drewW w1):=fun hne=>k _ _ ⟨(fun h=>by cases h),fun h=>(hne (by rw [<- ea,<- eb]; simp [h])).elim⟩ xd
  refine ⟨Ext No w1,(Ext.refl _ _).drew,ixL fun _ _ c1=>⟨L[j].1.key,c1 0 _ rfl,strH opL.key.rd (ixM fun _ _ c2=>⟨M[j].1.key,c2 0 _ rfl,strH opM.key.rd (If.not (eqStr (fun e1=>?_) fun e1=>no fun h=>e1 (by rw [h])))⟩)⟩⟩
  refine ixL fun _ _ c1=>⟨L[j].1.val,c1 1 _ rfl,strH opL.val.rd (ixM fun _ _ c2=>⟨M[j].1.val,c2 1 _ rfl,strH opM.val.rd (If.not (eqStr (fun e2=>?_) fun e2=>no fun h=>e2 (by rw [h])))⟩)⟩
  refine ixL fun _ _ c1=>⟨L[j].1.drop,c1 2 _ rfl,ixM fun _ _ c2=>⟨M[j].1.drop,c2 2 _ rfl,If.not (If.cases (fun e3=>?_) fun e3=>no fun h=>?_)⟩⟩
  .have e3':=eq_of_beq e3
   rw [opL.drop,opM.drop] at e3'
   have:L[j].2=M[j].2:=opP_ext e1 e2 e3'
   exact Ar.i64 (by omega) ⟨_,by omega,j+1,by omega,by omega,rfl,by rw [ta,tb,he,this],xd⟩
  .rw [opL.drop,opM.drop,h] at e3
   simp at e3
 .have hjn:j=a.length:=by omega
  refine k _ _ ⟨fun _=>?_,fun _=>rfl⟩ x1
  rw [hjn,List.take_length] at he
  rw [he,hab,List.take_length]
set_option maxHeartbeats 1000000 in
theorem rsameCall_spec{va vb:CallV}{a b:CallP}{K:Bool->Wd->Prop}(ra:CallR Q w.heap va a)(rb:CallR Q' w.heap vb b)(hl:a.ops.length<=1000000000000000000)(k:∀ r w',(r=true ↔ a=b)->Ext No w w'->K r w') :
  C_ref29_sameCall va.kind va.tenant va.secret va.quota va.n va.handle va.other va.snap va.rights va.ops va.key va.frm va.upto va.back vb.kind vb.tenant vb.secret vb.quota vb.n vb.handle vb.other vb.snap vb.rights vb.ops vb.key vb.frm vb.upto vb.back w K:=by
 apply S_ref29_sameCall
 refine NewW.mk fun p w1 n1=>NewW.mk fun q w2 n2=>?_
 have x02:=n1.ext.no n2.ext
 have gp:w2.heap[p]? = some (.cells va.cells.toArray 30 (0,0)):=get_no n1.get n2.ext
 have gq:w2.heap[q]? = some (.cells vb.cells.toArray 30 (0,0)):=n2.get
 have ra2:=ra.no x02; have rb2:=rb.no x02
 have no:∀{w'},Ext No w w'->¬ a=b->K false w':=fun x h=>k _ _ ⟨(fun h=>by cases h),fun h2=>(h h2).elim⟩ x
 refine ⟨va.kind,Cell.lst gp rfl,vb.kind,Cell.lst gq rfl,If.beq (fun e1=>?_) fun e1=>no x02 fun h=>e1 (by rw [ra.kind,rb.kind,h])⟩
 refine ⟨va.tenant,Cell.lst gp rfl,vb.tenant,Cell.lst gq rfl,If.beq (fun e2=>?_) fun e2=>no x02 fun h=>e2 (by rw [ra.tenant,rb.tenant,h])⟩
 refine ⟨va.secret,Cell.lst gp rfl,strD ra2.secret.rd ⟨vb.secret,Cell.lst gq rfl,strD rb2.secret.rd (eqStr (fun e3=>?_) fun e3=>no x02 fun h=>e3 (by rw [h]))⟩⟩
 refine ⟨va.quota,Cell.lst gp rfl,vb.quota,Cell.lst gq rfl,If.beq (fun e4=>?_) fun e4=>no x02 fun h=>e4 (by rw [ra.quota,rb.quota,h])⟩
 refine ⟨va.n,Cell.lst gp rfl,vb.n,Cell.lst gq rfl,If.beq (fun e5=>?_) fun e5=>no x02 fun h=>e5 (by rw [ra.n,rb.n,h])⟩
 refine ⟨va.handle,Cell.lst gp rfl,vb.handle,Cell.lst gq rfl,If.beq (fun e6=>?_) fun e6=>no x02 fun h=>e6 (by rw [ra.handle,rb.handle,h])⟩
 refine ⟨va.other,Cell.lst gp rfl,vb.other,Cell.lst gq rfl,If.beq (fun e7=>?_) fun e7=>no x02 fun h=>e7 (by rw [ra.other,rb.other,h])⟩
 refine ⟨va.snap,Cell.lst gp rfl,vb.snap,Cell.lst gq rfl,If.beq (fun e8=>?_) fun e8=>no x02 fun h=>e8 (by rw [ra.snap,rb.snap,h])⟩
 refine ⟨va.rights,Cell.lst gp rfl,vb.rights,Cell.lst gq rfl,If.beq (fun e9=>?_) fun e9=>no x02 fun h=>e9 (by rw [ra.rights,rb.rights,h])⟩
 refine ⟨va.ops,Cell.lst gp rfl,vb.ops,Cell.lst gq rfl,rsameOps_spec ra2.ops rb2.ops hl fun r w3 hr x3=>If.cases (fun t=>?_) fun t=>no (x02.no x3) fun h=>by have:=hr.2 (by rw [h]); rw [t] at this; cases this⟩
 have x03:=x02.no x3
 have ra3:=ra.no x03; have rb3:=rb.no x03
 have gp3:=get_no gp x3; have gq3:=get_no gq x3
 refine ⟨va.key,Cell.lst gp3 rfl,strD ra3.key.rd ⟨vb.key,Cell.lst gq3 rfl,strD rb3.key.rd (eqStr (fun e10=>?_) fun e10=>no x03 fun h=>e10 (by rw [h]))⟩⟩
 refine ⟨va.frm,Cell.lst gp3 rfl,strD ra3.frm.rd ⟨vb.frm,Cell.lst gq3 rfl,strD rb3.frm.rd (eqStr (fun e11=>?_) fun e11=>no x03 fun h=>e11 (by rw [h]))⟩⟩
 refine ⟨va.upto,Cell.lst gp3 rfl,strD ra3.upto.rd ⟨vb.upto,Cell.lst gq3 rfl,strD rb3.upto.rd (eqStr (fun e12=>?_) fun e12=>no x03 fun h=>e12 (by rw [h]))⟩⟩
 refine ⟨va.back,Cell.lst gp3 rfl,vb.back,Cell.lst gq3 rfl,k _ _ ?_ x03⟩
 rw [beq_iff_eq,ra.back,rb.back]
 refine ⟨fun e=>?_,fun h=>by rw [h]⟩
 rw [ra.kind,rb.kind] at e1; rw [ra.tenant,rb.tenant] at e2; rw [ra.quota,rb.quota] at e4; rw [ra.n,rb.n] at e5; rw [ra.handle,rb.handle] at e6; rw [ra.other,rb.other] at e7; rw [ra.snap,rb.snap] at e8; rw [ra.rights,rb.rights] at e9
 exact callP_ext e1 e2 e4 e5 e6 e7 e8 e9 e e3 e10 e11 e12 (hr.1 t)
theorem rSame_spec{va vb:EvV}{a b:EvP}{K:Bool->Wd->Prop}(ra:EvR Q w.heap va a)(rb:EvR Q' w.heap vb b)(hl:a.call.ops.length<=1000000000000000000)(k:∀ r w',(r=true ↔ a=b)->Ext No w w'->K r w') :
  C_ref29_Same va.kind va.call.kind va.call.tenant va.call.secret va.call.quota va.call.n va.call.handle va.call.other va.call.snap va.call.rights va.call.ops va.call.key va.call.frm va.call.upto va.call.back va.n va.block va.masks va.bytes vb.kind vb.call.kind vb.call.tenant vb.call.secret vb.call.quota vb.call.n vb.call.handle vb.call.other vb.call.snap vb.call.rights vb.call.ops vb.call.key vb.call.frm vb.call.upto vb.call.back vb.n vb.block vb.masks vb.bytes w K:=by
 apply S_ref29_Same
 refine NewW.mk fun p w1 n1=>NewW.mk fun q w2 n2=>?_
 have x02:=n1.ext.no n2.ext
 have gp:w2.heap[p]? = some (.cells va.cells.toArray 32 (0,0)):=get_no n1.get n2.ext
 have gq:w2.heap[q]? = some (.cells vb.cells.toArray 32 (0,0)):=n2.get
 have no:∀{w'},Ext No w w'->¬ a=b->K false w':=fun x h=>k _ _ ⟨(fun h=>by cases h),fun h2=>(h h2).elim⟩ x
 refine ⟨va.kind,Cell.lst gp rfl,vb.kind,Cell.lst gq rfl,If.beq (fun e1=>?_) fun e1=>no x02 fun h=>e1 (by rw [ra.kind,rb.kind,h])⟩
 refine ⟨va.call.kind,Cell.lst gp rfl,va.call.tenant,Cell.lst gp rfl,va.call.secret,Cell.lst gp rfl,va.call.quota,Cell.lst gp rfl,va.call.n,Cell.lst gp rfl,va.call.handle,Cell.lst gp rfl,va.call.other,Cell.lst gp rfl,va.call.snap,Cell.lst gp rfl,va.call.rights,Cell.lst gp rfl,va.call.ops,Cell.lst gp rfl,va.call.key,Cell.lst gp rfl,va.call.frm,Cell.lst gp rfl,va.call.upto,Cell.lst gp rfl,va.call.back,Cell.lst gp rfl,vb.call.kind,Cell.lst gq rfl,vb.call.tenant,Cell.lst gq rfl,vb.call.secret,Cell.lst gq rfl,vb.call.quota,Cell.lst gq rfl,vb.call.n,Cell.lst gq rfl,vb.call.handle,Cell.lst gq rfl,vb.call.other,Cell.lst gq rfl,vb.call.snap,Cell.lst gq rfl,vb.call.rights,Cell.lst gq rfl,vb.call.ops,Cell.lst gq rfl,vb.call.key,Cell.lst gq rfl,vb.call.frm,Cell.lst gq rfl,vb.call.upto,Cell.lst gq rfl,vb.call.back,Cell.lst gq rfl,?_⟩
 refine rsameCall_spec (ra.no x02).call (rb.no x02).call hl fun r w3 hr x3=>If.cases (fun t=>?_) fun t=>no (x02.no x3) fun h=>by have:=hr.2 (by rw [h]); rw [t] at this; cases this
 have x03:=x02.no x3
 have ra3:=ra.no x03; have rb3:=rb.no x03
 have gp3:=get_no gp x3; have gq3:=get_no gq x3
 refine ⟨va.n,Cell.lst gp3 rfl,vb.n,Cell.lst gq3 rfl,If.beq (fun e2=>?_) fun e2=>no x03 fun h=>e2 (by rw [ra.n,rb.n,h])⟩
 refine ⟨va.block,Cell.lst gp3 rfl,vb.block,Cell.lst gq3 rfl,If.beq (fun e3=>?_) fun e3=>no x03 fun h=>e3 (by rw [ra.block,rb.block,h])⟩
 refine ⟨va.masks,Cell.lst gp3 rfl,strD ra3.masks.rd ⟨vb.masks,Cell.lst gq3 rfl,strD rb3.masks.rd (eqStr (fun e4=>?_) fun e4=>no x03 fun h=>e4 (by rw [h]))⟩⟩
 refine ⟨va.bytes,Cell.lst gp3 rfl,strD ra3.bytes.rd ⟨vb.bytes,Cell.lst gq3 rfl,strD rb3.bytes.rd (k _ _ ?_ x03)⟩⟩
 rw [stB_toList,stB_toList,beq_iff_eq]
 refine ⟨fun e5=>?_,fun h=>by rw [h]⟩
 rw [ra.kind,rb.kind] at e1; rw [ra.n,rb.n] at e2; rw [ra.block,rb.block] at e3
 exact evP_ext e1 (hr.1 t) e2 e3 e4 e5
end
end Go.Proofs.YtimonamjecmlcaaGreatDoor
namespace Go.V
abbrev KCl:Type:=Int->Int->Sl->Int->Int->Int->Int->Int->Int->Sl->Sl->Sl->Sl->Bool->Wd->Prop
abbrev Cells14(w:Wd)(b:Nat)(K:KCl):Prop :=
 ∃ c0:Int,Cell w (Addr.mk b 0 none) (.int .i64 c0) /\
 ∃ c1:Int,Cell w ((Addr.mk b 0 none).add 1) (.int .u32 c1) /\
 ∃ c2:Sl,Cell w ((Addr.mk b 0 none).add 2) (.slice c2.a c2.len c2.cap) /\
 ∃ c3:Int,Cell w ((Addr.mk b 0 none).add 3) (.int .i64 c3) /\
 ∃ c4:Int,Cell w ((Addr.mk b 0 none).add 4) (.int .i64 c4) /\
 ∃ c5:Int,Cell w ((Addr.mk b 0 none).add 5) (.int .u64 c5) /\
 ∃ c6:Int,Cell w ((Addr.mk b 0 none).add 6) (.int .u64 c6) /\
 ∃ c7:Int,Cell w ((Addr.mk b 0 none).add 7) (.int .u64 c7) /\
 ∃ c8:Int,Cell w ((Addr.mk b 0 none).add 8) (.int .u8 c8) /\
 ∃ c9:Sl,Cell w ((Addr.mk b 0 none).add 9) (.slice c9.a c9.len c9.cap) /\
 ∃ c10:Sl,Cell w ((Addr.mk b 0 none).add 10) (.slice c10.a c10.len c10.cap) /\
 ∃ c11:Sl,Cell w ((Addr.mk b 0 none).add 11) (.slice c11.a c11.len c11.cap) /\
 ∃ c12:Sl,Cell w ((Addr.mk b 0 none).add 12) (.slice c12.a c12.len c12.cap) /\
 ∃ c13:Bool,Cell w ((Addr.mk b 0 none).add 13) (.bool c13) /\
 K c0 c1 c2 c3 c4 c5 c6 c7 c8 c9 c10 c11 c12 c13 w
abbrev KCl.at(K:KCl)(v:CallV)(w:Wd):Prop:=K v.kind v.tenant v.secret v.quota v.n v.handle v.other v.snap v.rights v.ops v.key v.frm v.upto v.back w
theorem Cells14.mk{w:Wd}{b:Nat}{v:CallV}{T:TypeId}{K:KCl}(g:w.heap[b]? = some (.cells v.cells.toArray T (0,0)))(k:K.at v w):Cells14 w b K :=
 ⟨v.kind,Cell.lst g rfl,v.tenant,Cell.lst g rfl,v.secret,Cell.lst g rfl,v.quota,Cell.lst g rfl,v.n,Cell.lst g rfl,v.handle,Cell.lst g rfl,v.other,Cell.lst g rfl,v.snap,Cell.lst g rfl,v.rights,Cell.lst g rfl,v.ops,Cell.lst g rfl,v.key,Cell.lst g rfl,v.frm,Cell.lst g rfl,v.upto,Cell.lst g rfl,v.back,Cell.lst g rfl,k⟩
abbrev Copy14(b1:Nat)(K:KCl):KCl:=fun c0 c1 c2 c3 c4 c5 c6 c7 c8 c9 c10 c11 c12 c13 w=>List.length (α:=Value) [.int .i64 c0, .int .u32 c1, .slice c2.a c2.len c2.cap, .int .i64 c3, .int .i64 c4, .int .u64 c5, .int .u64 c6, .int .u64 c7, .int .u8 c8, .slice c9.a c9.len c9.cap, .slice c10.a c10.len c10.cap, .slice c11.a c11.len c11.cap, .slice c12.a c12.len c12.cap, .bool c13]=14/\StN w (Addr.mk b1 0 none) [.int .i64 c0, .int .u32 c1, .slice c2.a c2.len c2.cap, .int .i64 c3, .int .i64 c4, .int .u64 c5, .int .u64 c6, .int .u64 c7, .int .u8 c8, .slice c9.a c9.len c9.cap, .slice c10.a c10.len c10.cap, .slice c11.a c11.len c11.cap, .slice c12.a c12.len c12.cap, .bool c13] fun w'=>Cells14 w' b1 K
abbrev Copy19(b1:Nat)(K:KEv):KEv:=fun c0 c1 c2 c3 c4 c5 c6 c7 c8 c9 c10 c11 c12 c13 c14 c15 c16 c17 c18 w=>List.length (α:=Value) [.int .i64 c0, .int .i64 c1, .int .u32 c2, .slice c3.a c3.len c3.cap, .int .i64 c4, .int .i64 c5, .int .u64 c6, .int .u64 c7, .int .u64 c8, .int .u8 c9, .slice c10.a c10.len c10.cap, .slice c11.a c11.len c11.cap, .slice c12.a c12.len c12.cap, .slice c13.a c13.len c13.cap, .bool c14, .int .i64 c15, .int .i64 c16, .slice c17.a c17.len c17.cap, .slice c18.a c18.len c18.cap]=19/\StN w (Addr.mk b1 0 none) [.int .i64 c0, .int .i64 c1, .int .u32 c2, .slice c3.a c3.len c3.cap, .int .i64 c4, .int .i64 c5, .int .u64 c6, .int .u64 c7, .int .u64 c8, .int .u8 c9, .slice c10.a c10.len c10.cap, .slice c11.a c11.len c11.cap, .slice c12.a c12.len c12.cap, .slice c13.a c13.len c13.cap, .bool c14, .int .i64 c15, .int .i64 c16, .slice c17.a c17.len c17.cap, .slice c18.a c18.len c18.cap] fun w'=>CellsE w' b1 K
def preV(v:CallV):CallV:=if v.kind=1∨v.kind=2∨v.kind=3∨v.kind=4∨v.kind=5∨v.kind=8 then { callV0 v.kind with tenant:=v.tenant } else { callV0 v.kind with handle:=v.handle }
def bareV(v:CallV):CallV :=
 if v.kind=6∨v.kind=7 then callV0 v.kind
 else if v.kind=1 then { preV v with secret:=v.secret,quota:=v.quota }
 else if v.kind=8 then { preV v with secret:=v.secret }
 else if v.kind=4 then { preV v with n:=v.n }
 else if v.kind=9 then { preV v with rights:=v.rights }
 else if v.kind=10 then { preV v with other:=v.other }
 else if v.kind=11 then { preV v with ops:=v.ops }
 else if v.kind=12 then { preV v with snap:=v.snap,key:=v.key }
 else if v.kind=13 then { preV v with snap:=v.snap,frm:=v.frm,upto:=v.upto,n:=v.n,back:=v.back }
 else if v.kind=15 then { preV v with snap:=v.snap }
 else preV v
theorem CallR.bare{Q:Nat->Prop}{h:Array Obj}{v:CallV}{c:CallP}(r:CallR Q h v c){k:Nat}{g:Bs×List FId}(hk:formP k=some g)(e:c.kind=(k:Int)):CallR Q h (bareV v) (bareF g.2 c):=by
 have ev:v.kind=(k:Int):=r.kind.trans e
 have nil:∀{s:Sl},RdQ Q h ⟨none,0,0⟩ []:=RdQ.nil _ _
 have nilO:OpsR Q h ⟨none,0,0⟩ []:=⟨[],rfl,Rd.nil _ _,fun h=>(h rfl).elim,by simp⟩
 have hb:=r.back
 match k,hk with
 | 1,hk | 2,hk | 3,hk | 4,hk | 5,hk | 6,hk | 7,hk | 8,hk | 9,hk | 10,hk | 11,hk | 12,hk | 14,hk | 15,hk | 16,hk =>
  cases hk
  simp only [bareV,preV,ev,bareF,e,List.foldl_cons,List.foldl_nil,pickF]
  refine ⟨?_,?_,?_,?_,?_,?_,?_,?_,?_,?_,?_,?_,?_,?_⟩ <;> first | rfl | exact r.tenant | exact r.secret | exact r.quota | exact r.n | exact r.handle | exact r.other | exact r.snap | exact r.rights | exact r.ops | exact r.key | exact r.frm | exact r.upto | exact RdQ.nil _ _ | exact nilO
 | 13,hk =>
  cases hk
  simp only [bareV,preV,ev,bareF,e,List.foldl_cons,List.foldl_nil,pickF]
  cases hbb:c.back
  .refine ⟨?_,?_,?_,?_,?_,?_,?_,?_,?_,?_,?_,?_,?_,?_⟩ <;> first | rfl | exact r.n | exact r.handle | exact r.snap | exact r.frm | exact r.upto | exact RdQ.nil _ _ | exact nilO | exact hb.trans hbb
  .refine ⟨?_,?_,?_,?_,?_,?_,?_,?_,?_,?_,?_,?_,?_,?_⟩ <;> first | rfl | exact r.n | exact r.handle | exact r.snap | exact r.frm | exact r.upto | exact RdQ.nil _ _ | exact nilO | exact hb.trans hbb
 | 0,hk=>cases hk
 | n+17,hk=>cases hk
def onlyV(v:EvV):EvV :=
 if v.kind=1 then (if 1<=v.call.kind/\v.call.kind<=16 then { evV0 with kind:=v.kind,call:=bareV v.call } else { evV0 with kind:=v.kind })
 else if v.kind=2∨v.kind=3 then { evV0 with kind:=v.kind,n:=v.n }
 else if v.kind=4 then { evV0 with kind:=v.kind,masks:=v.masks }
 else if v.kind=6 then { evV0 with kind:=v.kind,n:=v.n,block:=v.block,bytes:=v.bytes }
 else { evV0 with kind:=v.kind }
def onlyP(e:EvP):EvP :=
 if e.kind=1 then (match formI e.call.kind with
  | some g=>{ evP0 1 with call:=bareF g.2 e.call }
  | none=>evP0 1)
 else if e.kind=2∨e.kind=3 then { evP0 e.kind with n:=e.n }
 else if e.kind=4 then { evP0 4 with masks:=e.masks }
 else if e.kind=6 then { evP0 6 with n:=e.n,block:=e.block,bytes:=e.bytes }
 else evP0 e.kind
theorem formI_some{z:Int}:(1<=z/\z<=16) ↔ ∃ g,formI z=some g:=by
 constructor
 .rintro ⟨h1,h2⟩
  unfold formI
  rw [if_pos (by omega)]
  have:∀ k:Fin 17,k.val≠0->(formP k.val).isSome:=by decide
  exact Option.isSome_iff_exists.1 (this ⟨z.toNat,by omega⟩ (by show z.toNat≠0; omega))
 .rintro ⟨g,hg⟩
  obtain ⟨k,rfl,hk⟩:=formI_nat hg
  have:=formP_lt hk; omega
theorem EvR.only{Q:Nat->Prop}{h:Array Obj}{v:EvV}{e:EvP}(r:EvR Q h v e):EvR Q h (onlyV v) (onlyP e):=by
 unfold onlyV onlyP
 rw [r.kind,r.call.kind]
 have z:∀{k:Int},EvR Q h { evV0 with kind:=k } (evP0 k):=⟨rfl,CallR.zero _ _ 0,rfl,rfl,RdQ.nil _ _,RdQ.nil _ _⟩
 by_cases h1:e.kind=1
 .rw [if_pos h1,if_pos h1,h1]
  by_cases h2:1<=e.call.kind/\e.call.kind<=16
  .rw [if_pos h2]
   obtain ⟨g,hg⟩:=formI_some.1 h2
   obtain ⟨k,ek,hk⟩:=formI_nat hg
   rw [hg]
   exact ⟨rfl,r.call.bare hk ek,rfl,rfl,RdQ.nil _ _,RdQ.nil _ _⟩
  .rw [if_neg h2]
   cases hg:formI e.call.kind with
   | some g=>exact (h2 (formI_some.2 ⟨g,hg⟩)).elim
   | none=>exact z
 rw [if_neg h1,if_neg h1]
 by_cases h2:e.kind=2∨e.kind=3
 .rw [if_pos h2,if_pos h2]; exact ⟨rfl,CallR.zero _ _ 0,r.n,rfl,RdQ.nil _ _,RdQ.nil _ _⟩
 rw [if_neg h2,if_neg h2]
 by_cases h4:e.kind=4
 .rw [if_pos h4,if_pos h4]; exact ⟨h4,CallR.zero _ _ 0,rfl,rfl,r.masks,RdQ.nil _ _⟩
 rw [if_neg h4,if_neg h4]
 by_cases h6:e.kind=6
 .rw [if_pos h6,if_pos h6]; exact ⟨h6,CallR.zero _ _ 0,r.n,r.block,RdQ.nil _ _,r.bytes⟩
 rw [if_neg h6,if_neg h6]; exact z
end Go.V
namespace Go.Proofs.YtimonamjecmlcaaGreatDoor
open Go.V
section
variable {w:Wd} {Q:Nat->Prop}
set_option maxHeartbeats 2000000 in
theorem rbare_spec{v:CallV}{K:KCl}(k:∀ w',Ext No w w'->K.at (bareV v) w'):C_ref29_bare v.kind v.tenant v.secret v.quota v.n v.handle v.other v.snap v.rights v.ops v.key v.frm v.upto v.back w K:=by
 apply S_ref29_bare
 refine NewW.mk fun b w1 n1=>NewW.mk fun b1 w2 n2=>⟨v.kind,Cell.lst (get_no n1.get n2.ext) rfl,NewW.mk fun b2 w3 n3=>⟨rfl,StN.all n3.get rfl (CallV.one (callV0 v.kind)) fun w4 g4 x4 _=>?_⟩⟩
 have x4':Ext (·=b2) w3 w4:=x4
 have hb:=n1.at_; have z1:=n1.size; have hb1:=n2.at_; have z2:=n2.size; have hb2:=n3.at_; have z3:=n3.size
 have x04:Ext No w w4:=((n1.ext.no n2.ext).no n3.ext).trans x4' fun q hq h=>by omega
 have gb4:w4.heap[b]? = some (.cells v.cells.toArray 30 (0,0)):=get_ext (get_no n1.get (n2.ext.no n3.ext)) x4' (by omega)
 have gb14:w4.heap[b1]? = some (.cells (callV0 0).cells.toArray 30 (0,0)):=get_ext (get_no n2.get n3.ext) x4' (by omega)
 have fin:∀{u:CallV}{w'},Ext (·=b2) w4 w'->w'.heap[b2]? = some (.cells u.cells.toArray 30 (0,0))->u=bareV v->Cells14 w' b2 (Copy14 b1 K):=fun {u w'} x gu hu=>by
  refine Cells14.mk gu ⟨rfl,StN.all (get_ext gb14 x (by omega)) rfl u.one fun w'' g'' x'' _=>Cells14.mk g'' ?_⟩
  have x2:Ext (·=b1) w' w'':=x''
  rw [hu]; exact k w'' ((x04.trans x fun q hq h=>by omega).trans x2 fun q hq h=>by omega)
 have cb:∀{w' j y},Ext (·=b2) w4 w'->v.cells[j]? = some y->Cell w' ⟨b,j,none⟩ y:=fun x h=>Cell.lst (get_ext gb4 x (by omega)) h
 have st:∀{u u':CallV}{w':Wd}{K':Wd->Prop}(j:Nat)(y:Value),Ext (·=b2) w4 w'->w'.heap[b2]? = some (.cells u.cells.toArray 30 (0,0))->j < 14->oneC y=true->u.cells.set j y=u'.cells->(∀ w'',Ext (·=b2) w4 w''->w''.heap[b2]? = some (.cells u'.cells.toArray 30 (0,0))->K' w'')->St1 w' ((Addr.mk b2 0 none).add j) y K':=fun {u u' w' K'} j y x gu hj hy hu k'=>by
  rw [addr_add_none rfl,Nat.zero_add]
  refine St1.mk gu (by simpa [CallV.cells] using hj) hy fun w'' h''=>?_
  have x2:Ext (·=b2) w' w'':=h''.ext
  have:=h''.get gu
  rw [hu] at this
  exact k' w'' (x.trans x2 fun _ _ h=>h) this
 have r4:Ext (·=b2) w4 w4:=Ext.refl _ _
 refine ⟨fun w'=>Ext (·=b2) w4 w'/\w'.heap[b2]? = some (.cells (preV v).cells.toArray 30 (0,0))/\¬ (v.kind=6∨v.kind=7),⟨v.kind,cb r4 rfl,fun t w'=>w'=w4/\(t=true ↔ v.kind=1∨v.kind=2∨v.kind=3∨v.kind=4∨v.kind=5∨v.kind=8),?_,?_⟩,?_⟩
 .refine If.beq (fun e=>⟨rfl,by rw [beq_iff_eq]; omega⟩) fun e1=>If.beq (fun e=>⟨rfl,by rw [beq_iff_eq]; omega⟩) fun e2=>If.beq (fun e=>⟨rfl,by rw [beq_iff_eq]; omega⟩) fun e3=>If.beq (fun e=>⟨rfl,by rw [beq_iff_eq]; omega⟩) fun e4=>If.beq (fun e=>⟨rfl,by rw [beq_iff_eq]; omega⟩) fun e5=>⟨rfl,by rw [beq_iff_eq]; omega⟩
 .rintro _ t w4 ⟨rfl,ht⟩
  refine If.cases (fun h=>?_) fun h=>?_
  .have h1:=ht.1 h
   refine ⟨v.tenant,cb r4 rfl,st (u:=callV0 v.kind) (u':={ callV0 v.kind with tenant:=v.tenant }) 1 _ r4 g4 (by decide) rfl rfl fun w'' x g=>⟨x,?_,by omega⟩⟩
   unfold preV; rw [if_pos h1]; exact g
  .have h1:¬ (v.kind=1∨v.kind=2∨v.kind=3∨v.kind=4∨v.kind=5∨v.kind=8):=fun h2=>by rw [ht.2 h2] at h; cases h
   refine ⟨fun t w'=>w'=w4/\(t=true ↔ v.kind=6∨v.kind=7),If.beq (fun e=>⟨rfl,by rw [beq_iff_eq]; omega⟩) fun e=>⟨rfl,by rw [beq_iff_eq]; omega⟩,?_⟩
   rintro _ t1 w4 ⟨rfl,ht1⟩
   refine If.cases (fun h2=>fin (u:=callV0 v.kind) r4 g4 ?_) fun h2=>⟨v.handle,cb r4 rfl,st (u:=callV0 v.kind) (u':={ callV0 v.kind with handle:=v.handle }) 5 _ r4 g4 (by decide) rfl rfl fun w'' x g=>⟨x,?_,fun h3=>by rw [ht1.2 h3] at h2; cases h2⟩⟩
   .unfold bareV; rw [if_pos (ht1.1 h2)]
   .unfold preV; rw [if_neg h1]; exact g
 rintro _ w10 ⟨x,gp,h67⟩
 have bv:bareV v=if v.kind=1 then { preV v with secret:=v.secret,quota:=v.quota } else if v.kind=8 then { preV v with secret:=v.secret } else if v.kind=4 then { preV v with n:=v.n } else if v.kind=9 then { preV v with rights:=v.rights } else if v.kind=10 then { preV v with other:=v.other } else if v.kind=11 then { preV v with ops:=v.ops } else if v.kind=12 then { preV v with snap:=v.snap,key:=v.key } else if v.kind=13 then { preV v with snap:=v.snap,frm:=v.frm,upto:=v.upto,n:=v.n,back:=v.back } else if v.kind=15 then { preV v with snap:=v.snap } else preV v:=by unfold bareV; rw [if_neg h67]
 rw [bv] at fin
 clear bv k
 refine ⟨v.kind,cb x rfl,If.beq (fun e=>?_) fun e1=>?_⟩
 .rw [if_pos e] at fin
  exact ⟨v.secret,cb x rfl,st (u':={ preV v with secret:=v.secret }) 2 _ x gp (by decide) rfl rfl fun _ x g=>⟨v.quota,cb x rfl,st (u':={ preV v with secret:=v.secret,quota:=v.quota }) 3 _ x g (by decide) rfl rfl fun _ x g=>fin x g rfl⟩⟩
 rw [if_neg e1] at fin
 refine If.beq (fun e=>?_) fun e1=>?_
 .rw [if_pos e] at fin
  exact ⟨v.secret,cb x rfl,st (u':={ preV v with secret:=v.secret }) 2 _ x gp (by decide) rfl rfl fun _ x g=>fin x g rfl⟩
 rw [if_neg e1] at fin
 refine If.beq (fun e=>?_) fun e1=>?_
 .rw [if_pos e] at fin
  exact ⟨v.n,cb x rfl,st (u':={ preV v with n:=v.n }) 4 _ x gp (by decide) rfl rfl fun _ x g=>fin x g rfl⟩
 rw [if_neg e1] at fin
 refine If.beq (fun e=>?_) fun e1=>?_
 .rw [if_pos e] at fin
  exact ⟨v.rights,cb x rfl,st (u':={ preV v with rights:=v.rights }) 8 _ x gp (by decide) rfl rfl fun _ x g=>fin x g rfl⟩
 rw [if_neg e1] at fin
 refine If.beq (fun e=>?_) fun e1=>?_
 .rw [if_pos e] at fin
  exact ⟨v.other,cb x rfl,st (u':={ preV v with other:=v.other }) 6 _ x gp (by decide) rfl rfl fun _ x g=>fin x g rfl⟩
 rw [if_neg e1] at fin
 refine If.beq (fun e=>?_) fun e1=>?_
 .rw [if_pos e] at fin
  exact ⟨v.ops,cb x rfl,st (u':={ preV v with ops:=v.ops }) 9 _ x gp (by decide) rfl rfl fun _ x g=>fin x g rfl⟩
 rw [if_neg e1] at fin
 refine If.beq (fun e=>?_) fun e1=>?_
 .rw [if_pos e] at fin
  exact ⟨v.snap,cb x rfl,st (u':={ preV v with snap:=v.snap }) 7 _ x gp (by decide) rfl rfl fun _ x g=>⟨v.key,cb x rfl,st (u':={ preV v with snap:=v.snap,key:=v.key }) 10 _ x g (by decide) rfl rfl fun _ x g=>fin x g rfl⟩⟩
 rw [if_neg e1] at fin
 refine If.beq (fun e=>?_) fun e1=>?_
 .rw [if_pos e] at fin
  exact ⟨v.snap,cb x rfl,st (u':={ preV v with snap:=v.snap }) 7 _ x gp (by decide) rfl rfl fun _ x g=>⟨v.frm,cb x rfl,st (u':={ preV v with snap:=v.snap,frm:=v.frm }) 11 _ x g (by decide) rfl rfl fun _ x g=>⟨v.upto,cb x rfl,st (u':={ preV v with snap:=v.snap,frm:=v.frm,upto:=v.upto }) 12 _ x g (by decide) rfl rfl fun _ x g =>
   ⟨v.n,cb x rfl,st (u':={ preV v with snap:=v.snap,frm:=v.frm,upto:=v.upto,n:=v.n }) 4 _ x g (by decide) rfl rfl fun _ x g=>⟨v.back,cb x rfl,st (u':={ preV v with snap:=v.snap,frm:=v.frm,upto:=v.upto,n:=v.n,back:=v.back }) 13 _ x g (by decide) rfl rfl fun _ x g=>fin x g rfl⟩⟩⟩⟩⟩
 rw [if_neg e1] at fin
 refine If.beq (fun e=>?_) fun e1=>?_
 .rw [if_pos e] at fin
  exact ⟨v.snap,cb x rfl,st (u':={ preV v with snap:=v.snap }) 7 _ x gp (by decide) rfl rfl fun _ x g=>fin x g rfl⟩
 rw [if_neg e1] at fin
 exact fin x gp rfl
end
end Go.Proofs.YtimonamjecmlcaaGreatDoor
namespace Go.V
theorem mayE_ref(e:EvP):MayE e ↔ (1<=e.kind/\e.kind<=6)/\(0<=e.n/\e.n<=1073741824)/\(0<=e.block/\e.block<=4095)/\e.masks.length<=1000/\e.bytes.length<=256/\e=onlyP e/\(∀ m∈e.masks,m.toNat<=15)/\(e.kind=1->(1<=e.call.kind/\e.call.kind<=16)/\LimB e.call)/\(e.kind=6->0 < e.bytes.length):=by
 constructor
 .rintro (h | h | h | h | h)
  .obtain ⟨hk,hn,hm,⟨hb,hy⟩,g,hg,lb,hc⟩:=h
   rw [hn,hm,hb,hy,hk]
   refine ⟨by omega,by omega,by omega,by simp,by simp,?_,by simp,fun _=>⟨formI_some.2 ⟨g,hg⟩,lb⟩,fun h=>by omega⟩
   unfold onlyP
   rw [if_pos hk,hg]
   exact (evP_eta hk hc hn hb hm hy).symm
  .obtain ⟨hk,hc,hm,⟨hb,hy⟩,hn⟩:=h
   refine ⟨by omega,hn,by omega,by rw [hm]; simp,by rw [hy]; simp,?_,by rw [hm]; simp,fun h=>by omega,fun h=>by omega⟩
   unfold onlyP
   rw [if_neg (by omega),if_pos hk]
   exact (evP_eta rfl hc rfl hb hm hy).symm
  .obtain ⟨hk,hc,hn,⟨hb,hy⟩,hl,hm⟩:=h
   refine ⟨by omega,by omega,by omega,hl,by rw [hy]; simp,?_,hm,fun h=>by omega,fun h=>by omega⟩
   unfold onlyP
   rw [if_neg (by omega),if_neg (by omega),if_pos hk]
   exact (evP_eta hk hc hn hb rfl hy).symm
  .obtain ⟨hk,hc,hn,hm,hb,hy⟩:=h
   refine ⟨by omega,by omega,by omega,by rw [hm]; simp,by rw [hy]; simp,?_,by rw [hm]; simp,fun h=>by omega,fun h=>by omega⟩
   unfold onlyP
   rw [if_neg (by omega),if_neg (by omega),if_neg (by omega),if_neg (by omega)]
   exact (evP_eta rfl hc hn hb hm hy).symm
  .obtain ⟨hk,hc,hm,hn,hb,hy1,hy2⟩:=h
   refine ⟨by omega,hn,hb,by rw [hm]; simp,hy2,?_,by rw [hm]; simp,fun h=>by omega,fun _=>hy1⟩
   unfold onlyP
   rw [if_neg (by omega),if_neg (by omega),if_neg (by omega),if_pos hk]
   exact (evP_eta hk hc rfl rfl hm rfl).symm
 .rintro ⟨hk,hn,hb,hml,hyl,ho,hm,h1,h6⟩
  unfold onlyP at ho
  by_cases k1:e.kind=1
  .obtain ⟨hc,lb⟩:=h1 k1
   obtain ⟨g,hg⟩:=formI_some.1 hc
   rw [if_pos k1,hg] at ho
   exact (mayE_1 k1).2 ⟨congrArg EvP.n ho,congrArg EvP.masks ho,⟨congrArg EvP.block ho,congrArg EvP.bytes ho⟩,g,hg,lb,congrArg EvP.call ho⟩
  rw [if_neg k1] at ho
  by_cases k2:e.kind=2∨e.kind=3
  .rw [if_pos k2] at ho
   exact (mayE_2 k2).2 ⟨congrArg EvP.call ho,congrArg EvP.masks ho,⟨congrArg EvP.block ho,congrArg EvP.bytes ho⟩,hn⟩
  rw [if_neg k2] at ho
  by_cases k4:e.kind=4
  .rw [if_pos k4] at ho
   exact (mayE_4 k4).2 ⟨congrArg EvP.call ho,congrArg EvP.n ho,⟨congrArg EvP.block ho,congrArg EvP.bytes ho⟩,hml,hm⟩
  rw [if_neg k4] at ho
  by_cases k6:e.kind=6
  .rw [if_pos k6] at ho
   exact (mayE_6 k6).2 ⟨congrArg EvP.call ho,congrArg EvP.masks ho,hn,hb,h6 k6,hyl⟩
  rw [if_neg k6] at ho
  exact (mayE_5 (by omega)).2 ⟨congrArg EvP.call ho,congrArg EvP.n ho,congrArg EvP.masks ho,congrArg EvP.block ho,congrArg EvP.bytes ho⟩
end Go.V
namespace Go.Proofs.YtimonamjecmlcaaGreatDoor
open Go.V
section
variable {w:Wd} {Q:Nat->Prop}
theorem rOnly_spec{v:EvV}{K:KEv}(k:∀ w',Ext No w w'->K.at (onlyV v) w'):C_ref29_only v.kind v.call.kind v.call.tenant v.call.secret v.call.quota v.call.n v.call.handle v.call.other v.call.snap v.call.rights v.call.ops v.call.key v.call.frm v.call.upto v.call.back v.n v.block v.masks v.bytes w K:=by
 apply S_ref29_only
 refine NewW.mk fun b w1 n1=>NewW.mk fun b1 w2 n2=>⟨v.kind,Cell.lst (get_no n1.get n2.ext) rfl,NewW.mk fun b2 w3 n3=>⟨rfl,StN.all n3.get rfl (EvV.one { evV0 with kind:=v.kind }) fun w4 g4 x4 _=>?_⟩⟩
 have x4':Ext (·=b2) w3 w4:=x4
 have hb:=n1.at_; have z1:=n1.size; have hb1:=n2.at_; have z2:=n2.size; have hb2:=n3.at_; have z3:=n3.size
 have x04:Ext No w w4:=((n1.ext.no n2.ext).no n3.ext).trans x4' fun q hq h=>by omega
 have gb4:w4.heap[b]? = some (.cells v.cells.toArray 32 (0,0)):=get_ext (get_no n1.get (n2.ext.no n3.ext)) x4' (by omega)
 have gb14:w4.heap[b1]? = some (.cells evV0.cells.toArray 32 (0,0)):=get_ext (get_no n2.get n3.ext) x4' (by omega)
 have gz:w4.heap[b2]? = some (.cells (EvV.cells { evV0 with kind:=v.kind }).toArray 32 (0,0)):=g4
 have fin:∀{u:EvV}{w'},Ext (·=b2) w4 w'->w'.heap[b2]? = some (.cells u.cells.toArray 32 (0,0))->onlyV v=u->CellsE w' b2 (Copy19 b1 K):=fun {u w'} x gu hu=>by
  refine CellsE.mk gu ⟨rfl,StN.all (get_ext gb14 x (by omega)) rfl u.one fun w'' g'' x'' _=>CellsE.mk g'' ?_⟩
  have x2:Ext (·=b1) w' w'':=x''
  rw [<- hu]; exact k w'' ((x04.trans x fun q hq h=>by omega).trans x2 fun q hq h=>by omega)
 have cb:∀{w' j y},Ext (·=b2) w4 w'->v.cells[j]? = some y->Cell w' ⟨b,j,none⟩ y:=fun x h=>Cell.lst (get_ext gb4 x (by omega)) h
 have st:∀{u u':EvV}{w':Wd}{K':Wd->Prop}(j:Nat)(y:Value),Ext (·=b2) w4 w'->w'.heap[b2]? = some (.cells u.cells.toArray 32 (0,0))->j < 19->oneC y=true->u.cells.set j y=u'.cells->(∀ w'',Ext (·=b2) w4 w''->w''.heap[b2]? = some (.cells u'.cells.toArray 32 (0,0))->K' w'')->St1 w' ((Addr.mk b2 0 none).add j) y K':=fun {u u' w' K'} j y x gu hj hy hu k'=>by
  rw [addr_add_none rfl,Nat.zero_add]
  refine St1.mk gu (by simpa [EvV.cells,CallV.cells] using hj) hy fun w'' h''=>?_
  have x2:Ext (·=b2) w' w'':=h''.ext
  have:=h''.get gu
  rw [hu] at this
  exact k' w'' (x.trans x2 fun _ _ h=>h) this
 have r4:Ext (·=b2) w4 w4:=Ext.refl _ _
 unfold onlyV at fin
 clear k
 refine ⟨v.kind,cb r4 rfl,If.beq (fun k1=>?_) fun k1=>?_⟩
 .rw [if_pos k1] at fin
  refine ⟨v.call.kind,cb r4 rfl,If.dec (fun h1=>⟨v.call.kind,cb r4 rfl,If.dec (fun h2=>⟨v.call.kind,cb r4 rfl,v.call.tenant,cb r4 rfl,v.call.secret,cb r4 rfl,v.call.quota,cb r4 rfl,v.call.n,cb r4 rfl,v.call.handle,cb r4 rfl,v.call.other,cb r4 rfl,v.call.snap,cb r4 rfl,v.call.rights,cb r4 rfl,v.call.ops,cb r4 rfl,v.call.key,cb r4 rfl,v.call.frm,cb r4 rfl,v.call.upto,cb r4 rfl,v.call.back,cb r4 rfl,?_⟩) fun h2=>?_⟩) fun h1=>?_⟩
  .rw [if_pos ⟨h1,h2⟩] at fin
   refine rbare_spec fun w5 x5=>⟨rfl,?_⟩
   have x5':Ext (·=b2) w4 w5:=x5.of_no
   refine StN.mk (b:=b2) (o:=1) (get_no gz x5) (by simp [EvV.cells,CallV.cells]) (CallV.one (bareV v.call)) fun w6 h6=>?_
   have x6:Ext (·=b2) w5 w6:=h6.ext
   have g6:=h6.get (get_no gz x5)
   exact fin (u:={ evV0 with kind:=v.kind,call:=bareV v.call }) (x5'.trans x6 fun _ _ h=>h) g6 rfl
  .rw [if_neg fun h=>h2 h.2] at fin
   exact fin r4 gz rfl
  .rw [if_neg fun h=>h1 h.1] at fin
   exact fin r4 gz rfl
 rw [if_neg k1] at fin
 refine ⟨fun t w'=>w'=w4/\(t=true ↔ v.kind=2∨v.kind=3),If.beq (fun e=>⟨rfl,by rw [beq_iff_eq]; omega⟩) fun e=>⟨rfl,by rw [beq_iff_eq]; omega⟩,?_⟩
 rintro _ t w4 ⟨rfl,ht⟩
 refine If.cases (fun h=>?_) fun h=>?_
 .rw [if_pos (ht.1 h)] at fin
  exact ⟨v.n,cb r4 rfl,st (u':={ evV0 with kind:=v.kind,n:=v.n }) 15 _ r4 gz (by decide) rfl rfl fun _ x g=>fin x g rfl⟩
 rw [if_neg fun h2=>by rw [ht.2 h2] at h; cases h] at fin
 refine If.beq (fun k4=>?_) fun k4=>?_
 .rw [if_pos k4] at fin
  exact ⟨v.masks,cb r4 rfl,st (u':={ evV0 with kind:=v.kind,masks:=v.masks }) 17 _ r4 gz (by decide) rfl rfl fun _ x g=>fin x g rfl⟩
 rw [if_neg k4] at fin
 refine If.beq (fun k6=>?_) fun k6=>?_
 .rw [if_pos k6] at fin
  exact ⟨v.n,cb r4 rfl,st (u':={ evV0 with kind:=v.kind,n:=v.n }) 15 _ r4 gz (by decide) rfl rfl fun _ x g=>⟨v.block,cb x rfl,st (u':={ evV0 with kind:=v.kind,n:=v.n,block:=v.block }) 16 _ x g (by decide) rfl rfl fun _ x g=>⟨v.bytes,cb x rfl,st (u':={ evV0 with kind:=v.kind,n:=v.n,block:=v.block,bytes:=v.bytes }) 18 _ x g (by decide) rfl rfl fun _ x g=>fin x g rfl⟩⟩⟩
 rw [if_neg k6] at fin
 exact fin r4 gz rfl
set_option maxHeartbeats 1000000 in
theorem rmayCall_spec{v:CallV}{c:CallP}{K:Bool->Wd->Prop}(r:CallR Q w.heap v c)(hl:c.ops.length<=1000000000000000000)(k:∀ r w',(r=true ↔ (1<=c.kind/\c.kind<=16)/\LimB c)->Ext No w w'->K r w'):C_ref29_mayCall v.kind v.tenant v.secret v.quota v.n v.handle v.other v.snap v.rights v.ops v.key v.frm v.upto v.back w K:=by
 apply S_ref29_mayCall
 refine NewW.mk fun b w1 n1=>?_
 have l1:=RdB.len r.secret.rd; have l2:=RdB.len r.key.rd; have l3:=RdB.len r.frm.rd; have l4:=RdB.len r.upto.rd; have l5:=OpsR.len r.ops
 have cb:∀{w' j y},Ext No w1 w'->v.cells[j]? = some y->Cell w' ⟨b,j,none⟩ y:=fun x h=>Cell.lst (get_no n1.get x) h
 have no:∀{w'},Ext No w1 w'->¬ ((1<=c.kind/\c.kind<=16)/\LimB c)->K false w':=fun x h=>k _ _ ⟨(fun h=>by cases h),fun h2=>(h h2).elim⟩ (n1.ext.no x)
 have r0:Ext No w1 w1:=Ext.refl _ _
 have kk:=r.kind; have kq:=r.quota; have kn:=r.n
 refine ⟨fun w'=>w'=w1/\(1<=c.kind/\c.kind<=16)/\c.secret.length<=32/\c.key.length<=64/\c.frm.length<=64/\c.upto.length<=64/\c.ops.length<=110/\(0<=c.quota/\c.quota<=1073741824)/\(0<=c.n/\c.n<=1073741824),?_,?_⟩
 .refine ⟨v.kind,cb r0 rfl,If.dec (fun h=>no r0 fun hh=>by have:=hh.1; omega) fun h1=>⟨v.kind,cb r0 rfl,If.dec (fun h=>no r0 fun hh=>by have:=hh.1; omega) fun h2=>?_⟩⟩
  refine ⟨v.secret,cb r0 rfl,If.dec (fun h=>no r0 fun hh=>by have:=hh.2.secret; omega) fun h3=>⟨v.key,cb r0 rfl,If.dec (fun h=>no r0 fun hh=>by have:=hh.2.key; omega) fun h4=>⟨v.frm,cb r0 rfl,If.dec (fun h=>no r0 fun hh=>by have:=hh.2.frm; omega) fun h5=>⟨v.upto,cb r0 rfl,If.dec (fun h=>no r0 fun hh=>by have:=hh.2.upto; omega) fun h6=>?_⟩⟩⟩⟩
  refine ⟨v.ops,cb r0 rfl,If.dec (fun h=>no r0 fun hh=>by have:=hh.2.opl; omega) fun h7=>⟨v.quota,cb r0 rfl,If.dec (fun h=>no r0 fun hh=>by have:=hh.2.quota; omega) fun h8=>⟨v.quota,cb r0 rfl,If.dec (fun h=>no r0 fun hh=>by have:=hh.2.quota; omega) fun h9=>?_⟩⟩⟩
  refine ⟨v.n,cb r0 rfl,If.dec (fun h=>no r0 fun hh=>by have:=hh.2.n; omega) fun h10=>⟨v.n,cb r0 rfl,If.dec (fun h=>no r0 fun hh=>by have:=hh.2.n; omega) fun h11=>⟨rfl,by omega,by omega,by omega,by omega,by omega,by omega,by omega,by omega⟩⟩⟩
 rintro _ w1 ⟨rfl,c1,c2,c3,c4,c5,c6,c7,c8⟩
 have ro:=r.ops
 obtain ⟨L,hL,r1,q1,h1⟩:=ro
 have hLl:L.length=c.ops.length:=by rw [<- hL,List.length_map]
 refine ⟨fun m t w'=>∃ j:Nat,t=j/\j<=L.length/\m=L.length - j/\(∀ o∈c.ops.take j,badOp o=false)/\w'=w1,⟨_,0,rfl,Nat.zero_le _,rfl,by simp,rfl⟩,?_⟩
 rintro _ m0 _ w1 ⟨j,rfl,hj,rfl,hbad,rfl⟩
 refine ⟨v.ops,cb r0 rfl,If.dec (fun h=>?_) fun h=>?_⟩
 .have hjL:j < L.length:=by omega
  have hjc:j < c.ops.length:=by omega
  have eo:c.ops[j]=L[j].2:=by simp [<- hL]
  have op:=h1 L[j] (List.getElem_mem hjL)
  have lk:=RdB.len op.key.rd; have lv:=RdB.len op.val.rd
  have tk:=take_snoc hjc
  have ix:∀{K':Addr->Prop},(∀ b1 o1,(∀ i x,(L[j].1.cells)[i]? = some x->Cell w1 ⟨b1,o1+i,none⟩ x)->K' ⟨b1,o1,none⟩)->Ix v.ops.a v.ops.len ((j:Nat):Int) 3 K':=fun k' =>
   Ix.elem (f:=fun e:OpV×OpP=>e.1.cells) (r1.no n1.ext) (opC_len L) (by decide) (by omega) h fun b1 o1 i1 hb1 c1=>k' b1 o1 c1
  have bad:badOp c.ops[j]=true->K false w1:=fun hb=>no r0 fun hh=>by
   have:=List.any_eq_false.1 hh.2.ops _ (List.getElem_mem hjc)
   exact this hb
  have good:badOp c.ops[j]=false->∀ o∈c.ops.take (j+1),badOp o=false:=fun hb o ho=>by
   rw [tk] at ho
   rcases List.mem_append.1 ho with h2 | h2
   .exact hbad o h2
   .rw [List.mem_singleton] at h2; rw [h2]; exact hb
  rw [eo] at bad good
  unfold badOp at bad good
  refine ⟨v.ops,cb r0 rfl,ix fun b1 o1 e1=>⟨L[j].1.key,e1 0 _ rfl,If.dec (fun h2=>bad (by rw [decide_eq_true (by omega)]; rfl)) fun h2=>⟨v.ops,cb r0 rfl,ix fun b2 o2 e2=>⟨L[j].1.val,e2 1 _ rfl,If.dec (fun h3=>bad (by rw [decide_eq_true (p:=1100 < _) (by omega),Bool.or_true]; rfl)) fun h3 =>
   ⟨v.ops,cb r0 rfl,ix fun b3 o3 e3=>⟨L[j].1.drop,e3 2 _ rfl,If.cases (fun hd=>⟨v.ops,cb r0 rfl,ix fun b4 o4 e4=>⟨L[j].1.val,e4 1 _ rfl,If.dec (fun h5=>bad ?_) fun h5=>Ar.i64 (by omega) ⟨_,by omega,j+1,by omega,by omega,rfl,good ?_,rfl⟩⟩⟩) fun hd=>Ar.i64 (by omega) ⟨_,by omega,j+1,by omega,by omega,rfl,good ?_,rfl⟩⟩⟩⟩⟩⟩⟩
  .rw [<- op.drop,hd,decide_eq_true (p:=0 < _) (by omega)]; simp
  .rw [decide_eq_false (p:=64 < _) (by omega),decide_eq_false (p:=1100 < _) (by omega),decide_eq_false (p:=0 < _) (by omega)]; simp
  .rw [decide_eq_false (p:=64 < _) (by omega),decide_eq_false (p:=1100 < _) (by omega),<- op.drop,hd]; simp
 .have hjn:j=c.ops.length:=by omega
  rw [hjn,List.take_length] at hbad
  refine k _ _ ⟨fun _=>⟨c1,⟨c2,c3,c4,c5,c6,c7,c8,?_⟩⟩,fun _=>rfl⟩ n1.ext
  rw [List.any_eq_false]
  intro o ho
  rw [hbad o ho]; simp
set_option maxHeartbeats 1000000 in
theorem rMay_spec{v:EvV}{e:EvP}{K:Bool->Wd->Prop}(r:EvR Q w.heap v e)(hl:e.call.ops.length<=1000000000000000000)(k:∀ r w',(r=true ↔ MayE e)->Ext No w w'->K r w'):C_ref29_May v.kind v.call.kind v.call.tenant v.call.secret v.call.quota v.call.n v.call.handle v.call.other v.call.snap v.call.rights v.call.ops v.call.key v.call.frm v.call.upto v.call.back v.n v.block v.masks v.bytes w K:=by
 apply S_ref29_May
 refine NewW.mk fun b w1 n1=>?_
 have lm:=RdB.len r.masks.rd; have lb:=RdB.len r.bytes.rd
 have kk:=r.kind; have kn:=r.n; have kb:=r.block
 have mr:=mayE_ref e
 have xd:Ext No w1 (drewW w1):=(Ext.refl _ _).drew
 have hv:∀{j x},v.cells[j]? = some x->Held (Ext No w1) ⟨b,j,none⟩ x:=fun h=>Held.cell (Cell.lst n1.get h)
 have no:∀{w'},Ext No w1 w'->¬ MayE e->K false w':=fun x h=>k _ _ ⟨(fun h=>by cases h),fun h2=>(h h2).elim⟩ (n1.ext.no x)
 refine ⟨fun w'=>Ext No w1 w'/\(1<=e.kind/\e.kind<=6)/\(0<=e.n/\e.n<=1073741824)/\(0<=e.block/\e.block<=4095)/\e.masks.length<=1000/\e.bytes.length<=256/\e=onlyP e,?_,?_⟩
 .refine ⟨Ext No w1,xd,v.kind,hv rfl,If.dec (fun h=>no xd fun hh=>by have:=(mr.1 hh).1; omega) fun h1=>⟨v.kind,hv rfl,If.dec (fun h=>no xd fun hh=>by have:=(mr.1 hh).1; omega) fun h2=>?_⟩⟩
  refine ⟨v.n,hv rfl,If.dec (fun h=>no xd fun hh=>by have:=(mr.1 hh).2.1; omega) fun h3=>⟨v.n,hv rfl,If.dec (fun h=>no xd fun hh=>by have:=(mr.1 hh).2.1; omega) fun h4=>?_⟩⟩
  refine ⟨v.block,hv rfl,If.dec (fun h=>no xd fun hh=>by have:=(mr.1 hh).2.2.1; omega) fun h5=>⟨v.block,hv rfl,If.dec (fun h=>no xd fun hh=>by have:=(mr.1 hh).2.2.1; omega) fun h6=>?_⟩⟩
  refine ⟨v.masks,hv rfl,If.dec (fun h=>no xd fun hh=>by have:=(mr.1 hh).2.2.2.1; omega) fun h7=>⟨v.bytes,hv rfl,If.dec (fun h=>no xd fun hh=>by have:=(mr.1 hh).2.2.2.2.1; omega) fun h8=>?_⟩⟩
  refine ⟨v.kind,hv rfl,v.call.kind,hv rfl,v.call.tenant,hv rfl,v.call.secret,hv rfl,v.call.quota,hv rfl,v.call.n,hv rfl,v.call.handle,hv rfl,v.call.other,hv rfl,v.call.snap,hv rfl,v.call.rights,hv rfl,v.call.ops,hv rfl,v.call.key,hv rfl,v.call.frm,hv rfl,v.call.upto,hv rfl,v.call.back,hv rfl,v.n,hv rfl,v.block,hv rfl,v.masks,hv rfl,v.bytes,hv rfl,v.kind,hv rfl,v.call.kind,hv rfl,v.call.tenant,hv rfl,v.call.secret,hv rfl,v.call.quota,hv rfl,v.call.n,hv rfl,v.call.handle,hv rfl,v.call.other,hv rfl,v.call.snap,hv rfl,v.call.rights,hv rfl,v.call.ops,hv rfl,v.call.key,hv rfl,v.call.frm,hv rfl,v.call.upto,hv rfl,v.call.back,hv rfl,v.n,hv rfl,v.block,hv rfl,v.masks,hv rfl,v.bytes,hv rfl,?_⟩
  refine rOnly_spec fun w2 x2=>⟨x2.drew_left,?_⟩
  have r2:=r.no (n1.ext.no x2.drew_left)
  refine rSame_spec r2 r2.only hl fun t w3 ht x3=>⟨x2.drew_left.no x3,If.not (If.cases (fun h=>⟨x2.drew_left.no x3,by omega,by omega,by omega,by omega,by omega,ht.1 h⟩) fun h=>no (x2.drew_left.no x3) fun hh=>?_)⟩
  have:=ht.2 (mr.1 hh).2.2.2.2.2.1
  rw [h] at this; cases this
 rintro _ w4 ⟨x4,c1,c2,c3,c4,c5,c6⟩
 have cb:∀{j y},v.cells[j]? = some y->Cell w4 ⟨b,j,none⟩ y:=fun h=>Cell.lst (get_no n1.get x4) h
 have r4:=r.no (n1.ext.no x4)
 refine ⟨fun m t w'=>∃ j:Nat,t=j/\j<=e.masks.length/\m=e.masks.length - j/\(∀ m∈e.masks.take j,m.toNat<=15)/\w'=w4,⟨_,0,rfl,Nat.zero_le _,rfl,by simp,rfl⟩,?_⟩
 rintro _ m0 _ w4 ⟨j,rfl,hj,rfl,hm,rfl⟩
 refine ⟨v.masks,cb rfl,If.dec (fun h=>⟨v.masks,cb rfl,ixB r4.masks.rd (by omega) h fun b2 o hi _ hc=>⟨_,hc,?_⟩⟩) fun h=>?_⟩
 .have hjl:j < e.masks.length:=hi
  have el:e.masks[((j:Nat):Int).toNat]'hi=e.masks[j]:=rfl
  rw [el]
  have tk:=take_snoc hjl
  refine If.dec (fun h2=>no x4 fun hh=>by have:=(mr.1 hh).2.2.2.2.2.2.1 _ (List.getElem_mem hjl); omega) fun h2=>Ar.i64 (by omega) ⟨_,by omega,j+1,by omega,by omega,rfl,fun m hm'=>?_,rfl⟩
  rw [tk] at hm'
  rcases List.mem_append.1 hm' with h3 | h3
  .exact hm m h3
  .rw [List.mem_singleton] at h3; rw [h3]; omega
 .have hjn:j=e.masks.length:=by omega
  rw [hjn,List.take_length] at hm
  refine ⟨v.kind,cb rfl,If.beq (fun k1=>?_) fun k1=>If.beq (fun k6=>⟨v.bytes,cb rfl,k _ _ ?_ (n1.ext.no x4)⟩) fun k6=>k _ _ ?_ (n1.ext.no x4)⟩
  .refine ⟨v.call.kind,cb rfl,v.call.tenant,cb rfl,v.call.secret,cb rfl,v.call.quota,cb rfl,v.call.n,cb rfl,v.call.handle,cb rfl,v.call.other,cb rfl,v.call.snap,cb rfl,v.call.rights,cb rfl,v.call.ops,cb rfl,v.call.key,cb rfl,v.call.frm,cb rfl,v.call.upto,cb rfl,v.call.back,cb rfl,?_⟩
   refine rmayCall_spec r4.call hl fun t w5 ht x5=>k _ _ (ht.trans ?_) (n1.ext.no (x4.no x5))
   rw [mr]
   exact ⟨fun h=>⟨c1,c2,c3,c4,c5,c6,hm,fun _=>h,fun h=>by omega⟩,fun h=>h.2.2.2.2.2.2.2.1 (by omega)⟩
  .rw [decide_eq_true_eq,mr]
   exact ⟨fun h=>⟨c1,c2,c3,c4,c5,c6,hm,fun h=>by omega,fun _=>by omega⟩,fun h=>by have:=h.2.2.2.2.2.2.2.2 (by omega); omega⟩
  .rw [mr]
   exact ⟨fun _=>⟨c1,c2,c3,c4,c5,c6,hm,fun h=>by omega,fun h=>by omega⟩,fun _=>rfl⟩
end
end Go.Proofs.YtimonamjecmlcaaGreatDoor
namespace Go.V
def catW(W:List Bs):Bs:=W.flatMap fun x=>32::x
theorem catW_app(a b:List Bs):catW (a++b)=catW a++catW b:=by simp [catW]
theorem catW_cons(x:Bs)(W:List Bs):catW (x::W)=32::(x++catW W):=rfl
theorem joinB_cat:∀(W:List Bs)(x:Bs),joinB 32 (x::W)=x++catW W
 | [],x=>by simp [joinB,catW]
 | y::W,x=>by rw [joinB_cons 32 x (by simp),joinB_cat W y,catW_cons]
theorem app32(a:Bs):stB a++(⟨#[32]⟩ : ByteArray)=stB (a++[32]):=stB_app a [32]
theorem appDrop(a:Bs):stB a++(⟨#[32,100,114,111,112,32]⟩ : ByteArray)=stB (a++32::(sdrop++[32])):=stB_app a _
theorem appPut(a:Bs):stB a++(⟨#[32,112,117,116,32]⟩ : ByteArray)=stB (a++32::(sput++[32])):=stB_app a _
theorem appBack(a:Bs):stB a++(⟨#[32,98,97,99,107]⟩ : ByteArray)=stB (a++32::sback):=stB_app a _
theorem appOn(a:Bs):stB a++(⟨#[32,111,110]⟩ : ByteArray)=stB (a++32::son):=stB_app a _
theorem catOK{a b:ByteArray}{l m:Bs}{K:Prop}(ha:a=stB l)(hb:b=stB m)(h:l.length+m.length<=1000000000000)(k:K):((ByteArray.size a+ByteArray.size b:Nat):Int)<=IntKind.i64.max/\K:=by
 refine ⟨?_,k⟩
 rw [ha,hb,stB_size,stB_size]
 show ((l.length+m.length:Nat):Int)<=9223372036854775807
 omega
def fstW(c:CallP):Bs:=if c.kind=1∨c.kind=2∨c.kind=3∨c.kind=4∨c.kind=5∨c.kind=8 then decB c.tenant.toNat else decB c.handle.toNat
theorem fstW_20{c:CallP}(h:LimC c):(fstW c).length<=20:=by
 have h1:=h.tenant; have h2:=h.handle
 unfold fstW
 split
 .exact decB_20 (by omega)
 .exact decB_20 (by omega)
theorem catOps_len{c:CallP}(h:LimC c)(j:Nat):(catW ((c.ops.take j).flatMap opW1)).length<=110 * 3000:=by
 have h1:∀ l:List OpP,(∀ o∈l,o.key.length<=64/\o.val.length<=1100)->(catW (l.flatMap opW1)).length<=l.length * 3000:=by
  intro l
  induction l with
  | nil=>intro _; simp [catW]
  | cons o l ih =>
   intro hl
   have i:=ih fun x hx=>hl x (by simp [hx])
   have ho:=hl o (by simp)
   have k1:=hexW_len (l:=o.key); have k2:=hexW_len (l:=o.val)
   rw [List.flatMap_cons,catW_app,List.length_append,List.length_cons,Nat.add_mul]
   have:(catW (opW1 o)).length<=3000:=by
    unfold opW1
    split
    .have:(catW [sdrop,hexW o.key]).length=6+(hexW o.key).length:=by simp [catW,sdrop]; omega
     omega
    .have:(catW [sput,hexW o.key,hexW o.val]).length=6+(hexW o.key).length+(hexW o.val).length:=by simp [catW,sput]; omega
     omega
   omega
 have h2:=h1 (c.ops.take j) fun o ho=>by have:=h.ops o (List.mem_of_mem_take ho); exact ⟨this.1,this.2.1⟩
 have h3:(c.ops.take j).length<=110:=by rw [List.length_take]; have:=h.opl; omega
 have h4:(c.ops.take j).length * 3000<=110 * 3000:=Nat.mul_le_mul_right _ h3
 omega
end Go.V
namespace Go.Proofs.YtimonamjecmlcaaGreatDoor
open Go.V
section
variable {w:Wd} {Q:Nat->Prop}
set_option maxHeartbeats 4000000 in
theorem rcall_spec{v:CallV}{c:CallP}{g:Bs×List FId}{K:ByteArray->Wd->Prop}(r:CallR Q w.heap v c)(hg:formI c.kind=some g)(lc:LimC c)(k:∀ w',Ext No w w'->K (stB (g.1++catW (telFs g.2 c))) w'):C_ref29_call v.kind v.tenant v.secret v.quota v.n v.handle v.other v.snap v.rights v.ops v.key v.frm v.upto v.back w K:=by
 apply S_ref29_call
 obtain ⟨kk,ek,hk⟩:=formI_nat hg
 have hwl:=formP_wd kk g hk
 have ekv:v.kind=(kk:Int):=r.kind.trans ek
 have h17:=formP_lt hk
 refine NewW.mk fun b w1 n1=>⟨v.kind,Cell.lst n1.get rfl,?_⟩
 rw [ekv]
 refine rword_spec (wordsL_form kk g hk) fun w2 x2=>?_
 have cb:∀{w' j y},Ext No w2 w'->v.cells[j]? = some y->Cell w' ⟨b,j,none⟩ y:=fun x h=>Cell.lst (get_no n1.get (x2.no x)) h
 have hv:∀{w3 j y},Ext No w2 w3->v.cells[j]? = some y->Held (Ext No w3) ⟨b,j,none⟩ y:=fun x h=>Held.cell (cb x h)
 have x02:=n1.ext.no x2
 have r0:Ext No w2 w2:=Ext.refl _ _
 have nt:v.tenant=((c.tenant.toNat:Nat):Int):=by rw [r.tenant,nat_of lc.tenant.1]
 have nh:v.handle=((c.handle.toNat:Nat):Int):=by rw [r.handle,nat_of lc.handle.1]
 have nq:v.quota=((c.quota.toNat:Nat):Int):=by rw [r.quota,nat_of lc.quota.1]
 have nn:v.n=((c.n.toNat:Nat):Int):=by rw [r.n,nat_of lc.n.1]
 have no:v.other=((c.other.toNat:Nat):Int):=by rw [r.other,nat_of lc.other.1]
 have ns:v.snap=((c.snap.toNat:Nat):Int):=by rw [r.snap,nat_of lc.snap.1]
 have nr:v.rights=((c.rights.toNat:Nat):Int):=by rw [r.rights,nat_of lc.rights.1]
 have lt:=lc.tenant; have lh:=lc.handle; have lq:=lc.quota; have ln:=lc.n; have lo:=lc.other; have ls:=lc.snap; have lr:=lc.rights
 have dt:=decB_20 (u:=c.tenant.toNat) (by omega); have dh:=decB_20 (u:=c.handle.toNat) (by omega); have dq:=decB_20 (u:=c.quota.toNat) (by omega); have dn:=decB_20 (u:=c.n.toNat) (by omega)
 have do_:=decB_20 (u:=c.other.toNat) (by omega); have ds:=decB_20 (u:=c.snap.toNat) (by omega); have dr:=decB_20 (u:=c.rights.toNat) (by omega)
 have hs:=hexW_len (l:=c.secret); have hk2:=hexW_len (l:=c.key); have hf:=hexW_len (l:=c.frm); have hu:=hexW_len (l:=c.upto)
 have l1:=lc.secret; have l2:=lc.key; have l3:=lc.frm; have l4:=lc.upto
 have U:∀{w3:Wd}{n:Nat}{K':ByteArray->Wd->Prop},n < 2 ^ 64->Ext No w2 w3->(∀ w',Ext No w2 w'->Ext No w3 w'->K' (stB (decB n)) w')->C_ref29_U (n:Int) w3 K':=fun hn x k'=>rU_spec hn fun w' x'=>k' w' (x.no x') x'
 have H:∀{w3:Wd}{s:Sl}{l:Bs}{K':ByteArray->Wd->Prop},RdQ Q w.heap s l->l.length<=5000->Ext No w2 w3->(∀ w',Ext No w2 w'->Ext No w3 w'->K' (stB (hexW l)) w')->C_ref29_Hex s w3 K':=fun hr hl x k'=>rHex_spec (hr.rd.no (x02.no x)) (by omega) fun w' x'=>k' w' (x.no x') x'
 have fin:∀{w':Wd}{s:Bs},Ext No w2 w'->s=g.1++catW (telFs g.2 c)->K (stB s) w':=fun x e=>by rw [e]; exact k _ (x02.no x)
 clear k
 have f20:=fstW_20 lc
 refine ⟨fun s w'=>s=stB (g.1++catW [fstW c])/\Ext No w2 w'/\¬ (c.kind=6∨c.kind=7),⟨v.kind,cb r0 rfl,fun t w'=>w'=w2/\(t=true ↔ v.kind=6∨v.kind=7),If.beq (fun e=>⟨rfl,by rw [beq_iff_eq]; omega⟩) fun e=>⟨rfl,by rw [beq_iff_eq]; omega⟩,?_⟩,?_⟩
 .rintro _ t w2 ⟨rfl,ht⟩
  refine If.cases (fun h=>?_) fun h=>?_
  .refine fin r0 ?_
   have h67:kk=6∨kk=7:=by have:=ht.1 h; omega
   rcases h67 with rfl | rfl <;> (cases hk; simp [telFs,catW])
  have n67:¬ (c.kind=6∨c.kind=7):=fun h2=>by rw [ht.2 (by rw [r.kind]; exact h2)] at h; cases h
  refine ⟨fun t w'=>w'=w2/\(t=true ↔ v.kind=1∨v.kind=2∨v.kind=3∨v.kind=4∨v.kind=5∨v.kind=8),If.beq (fun e=>⟨rfl,by rw [beq_iff_eq]; omega⟩) fun e1=>If.beq (fun e=>⟨rfl,by rw [beq_iff_eq]; omega⟩) fun e2=>If.beq (fun e=>⟨rfl,by rw [beq_iff_eq]; omega⟩) fun e3=>If.beq (fun e=>⟨rfl,by rw [beq_iff_eq]; omega⟩) fun e4=>If.beq (fun e=>⟨rfl,by rw [beq_iff_eq]; omega⟩) fun e5=>⟨rfl,by rw [beq_iff_eq]; omega⟩,?_⟩
  rintro _ t1 w2 ⟨rfl,ht1⟩
  have ef:∀{d:Bs},fstW c=d->(g.1++[32])++d=g.1++catW [fstW c]:=fun e=>by rw [e]; simp [catW]
  refine If.cases (fun h=>?_) fun h=>?_
  .refine catOK rfl (m:=[32]) rfl (by simp; omega) ⟨v.tenant,cb r0 rfl,?_⟩
   rw [nt,app32]
   have ef':=ef (d:=decB c.tenant.toNat) (by unfold fstW; rw [if_pos (by have:=ht1.1 h; rw [r.kind] at this; exact this)])
   refine Ar.u64 (by omega) (U (by omega) r0 fun w5 x5 _=>catOK rfl rfl (by simp; omega) ⟨?_,x5,n67⟩)
   rw [stB_app,ef']
  .refine catOK rfl (m:=[32]) rfl (by simp; omega) ⟨v.handle,cb r0 rfl,?_⟩
   rw [nh,app32]
   have ef':=ef (d:=decB c.handle.toNat) (by unfold fstW; rw [if_neg (fun h2=>by rw [ht1.2 (by rw [r.kind]; exact h2)] at h; cases h)])
   refine U (by omega) r0 fun w5 x5 _=>catOK rfl rfl (by simp; omega) ⟨?_,x5,n67⟩
   rw [stB_app,ef']
 rintro _ _ w7 ⟨rfl,x7,n67⟩
 have hpl:(g.1++catW [fstW c]).length<=40:=by simp [catW]; omega
 have eP:∀{fs:List FId}{rest:List Bs},g.2=fs->telFs fs c=fstW c::rest->∀{s:Bs},s=(g.1++catW [fstW c])++catW rest->s=g.1++catW (telFs g.2 c):=fun e1 e2 s e3=>by rw [e1,e2,e3,List.append_assoc,<- catW_app]; rfl
 have kA:kk=1∨kk=2∨kk=3∨kk=4∨kk=5∨kk=8->fstW c=decB c.tenant.toNat:=fun h=>by unfold fstW; rw [if_pos (by rw [ek]; omega)]
 have kB:¬ (kk=1∨kk=2∨kk=3∨kk=4∨kk=5∨kk=8)->fstW c=decB c.handle.toNat:=fun h=>by unfold fstW; rw [if_neg (by rw [ek]; omega)]
 have rest:∀{rest:List Bs}{s:Bs}{w':Wd},Ext No w2 w'->telFs g.2 c=fstW c::rest->s=(g.1++catW [fstW c])++catW rest->K (stB s) w':=fun x e1 e2=>fin x (eP rfl e1 e2)
 clear fin eP
 generalize hP:g.1++catW [fstW c]=P at *
 refine ⟨v.kind,cb x7 rfl,If.beq (fun e=>?_) fun e1=>?_⟩
 .obtain rfl:kk=1:=by omega
  cases hk
  refine ⟨Ext No w7,(Ext.refl _ _).drew,catOK rfl (m:=[32]) rfl (by simp; omega) ⟨v.secret,hv x7 rfl,v.quota,hv x7 rfl,?_⟩⟩
  rw [nq,app32]
  refine Ar.u64 (by omega) (H r.secret (by omega) x7.drew fun w8 x8 y8=>⟨y8.drew_left,catOK rfl rfl (by simp; omega) ?_⟩)
  rw [stB_app]
  refine catOK rfl (m:=[32]) rfl (by simp; omega) ?_
  rw [app32]
  refine U (by omega) x8 fun w9 x9 y9=>⟨y8.drew_left.no y9,catOK rfl rfl (by simp; omega) ?_⟩
  rw [stB_app]
  exact rest (rest:=[hexW c.secret,decB c.quota.toNat]) x9 (by rw [kA (by omega)]; rfl) (by simp [catW])
 refine If.beq (fun e=>?_) fun e2=>?_
 .obtain rfl:kk=8:=by omega
  cases hk
  refine catOK rfl (m:=[32]) rfl (by simp; omega) ⟨v.secret,cb x7 rfl,?_⟩
  rw [app32]
  refine H r.secret (by omega) x7 fun w8 x8 y8=>catOK rfl rfl (by simp; omega) ?_
  rw [stB_app]
  exact rest (rest:=[hexW c.secret]) x8 (by rw [kA (by omega)]; rfl) (by simp [catW])
 refine If.beq (fun e=>?_) fun e3=>?_
 .obtain rfl:kk=4:=by omega
  cases hk
  refine catOK rfl (m:=[32]) rfl (by simp; omega) ⟨v.n,cb x7 rfl,?_⟩
  rw [nn,app32]
  refine Ar.u64 (by omega) (U (by omega) x7 fun w8 x8 y8=>catOK rfl rfl (by simp; omega) ?_)
  rw [stB_app]
  exact rest (rest:=[decB c.n.toNat]) x8 (by rw [kA (by omega)]; rfl) (by simp [catW])
 refine If.beq (fun e=>?_) fun e4=>?_
 .obtain rfl:kk=9:=by omega
  cases hk
  refine catOK rfl (m:=[32]) rfl (by simp; omega) ⟨v.rights,cb x7 rfl,?_⟩
  rw [nr,app32]
  refine Ar.u64 (by omega) (U (by omega) x7 fun w8 x8 y8=>catOK rfl rfl (by simp; omega) ?_)
  rw [stB_app]
  exact rest (rest:=[decB c.rights.toNat]) x8 (by rw [kB (by omega)]; rfl) (by simp [catW])
 refine If.beq (fun e=>?_) fun e5=>?_
 .obtain rfl:kk=10:=by omega
  cases hk
  refine catOK rfl (m:=[32]) rfl (by simp; omega) ⟨v.other,cb x7 rfl,?_⟩
  rw [no,app32]
  refine U (by omega) x7 fun w8 x8 y8=>catOK rfl rfl (by simp; omega) ?_
  rw [stB_app]
  exact rest (rest:=[decB c.other.toNat]) x8 (by rw [kB (by omega)]; rfl) (by simp [catW])
 refine If.beq (fun e=>?_) fun e6=>?_
 .obtain rfl:kk=11:=by omega
  cases hk
  obtain ⟨L,hL,ro,q1,hO⟩:=r.ops
  have hLl:L.length=c.ops.length:=by rw [<- hL,List.length_map]
  refine ⟨fun m s t w'=>∃ j:Nat,t=j/\j<=L.length/\m=L.length - j/\s=stB (P++catW ((c.ops.take j).flatMap opW1))/\Ext No w2 w',⟨_,0,rfl,Nat.zero_le _,rfl,by simp [catW],x7⟩,?_⟩
  rintro _ m0 _ _ w14 ⟨j,rfl,hj,rfl,rfl,x14⟩
  have hcl:=catOps_len lc j
  have hol:=OpsR.len r.ops
  have hopl:=lc.opl
  refine ⟨v.ops,cb x14 rfl,If.dec (fun h=>⟨v.ops,cb x14 rfl,?_⟩) fun h=>?_⟩
  .have hjL:j < L.length:=by omega
   have hjc:j < c.ops.length:=by omega
   have eo:c.ops[j]=L[j].2:=by simp [<- hL]
   have op:=hO L[j] (List.getElem_mem hjL)
   have lops:=lc.ops _ (List.getElem_mem hjc)
   have tk:(c.ops.take (j+1)).flatMap opW1=(c.ops.take j).flatMap opW1++opW1 L[j].2:=by rw [take_snoc hjc,List.flatMap_append,eo]; simp
   rw [eo] at lops
   have k1:=hexW_len (l:=L[j].2.key); have k2:=hexW_len (l:=L[j].2.val)
   have ix:∀{K':Addr->Prop},(∀ b1 o1,(∀ i x,(L[j].1.cells)[i]? = some x->Cell w14 ⟨b1,o1+i,none⟩ x)->K' ⟨b1,o1,none⟩)->Ix v.ops.a v.ops.len ((j:Nat):Int) 3 K':=fun k' =>
    Ix.elem (f:=fun e:OpV×OpP=>e.1.cells) (ro.no (x02.no x14)) (opC_len L) (by decide) (by omega) h fun b1 o1 i1 hb1 c1=>k' b1 o1 c1
   refine ix fun b1 o1 c1=>⟨L[j].1.drop,c1 2 _ rfl,If.cases (fun hd=>?_) fun hd=>?_⟩
   .have hdd:L[j].2.drop=true:=by rw [<- op.drop]; exact hd
    refine catOK rfl (m:=32::(sdrop++[32])) rfl (by simp [sdrop]; omega) ⟨v.ops,cb x14 rfl,ix fun b2 o2 c2=>⟨L[j].1.key,c2 0 _ rfl,?_⟩⟩
    rw [appDrop]
    refine H op.key (by omega) x14 fun w8 x8 y8=>catOK rfl rfl (by simp [sdrop]; omega) (Ar.i64 (by omega) ⟨_,by omega,j+1,by omega,by omega,rfl,?_,x8⟩)
    rw [stB_app,tk,catW_app,show opW1 L[j].2=[sdrop,hexW L[j].2.key] by unfold opW1; rw [hdd]; rfl]
    simp [catW]
   .have hdd:L[j].2.drop=false:=by rw [<- op.drop]; exact hd
    refine ⟨Ext No w14,(Ext.refl _ _).drew,catOK rfl (m:=32::(sput++[32])) rfl (by simp [sput]; omega) ⟨v.ops,hv x14 rfl,ix fun b2 o2 c2=>⟨L[j].1.key,Held.cell (c2 0 _ rfl),v.ops,hv x14 rfl,ix fun b3 o3 c3=>⟨L[j].1.val,Held.cell (c3 1 _ rfl),?_⟩⟩⟩⟩
    rw [appPut]
    refine H op.key (by omega) x14.drew fun w8 x8 y8=>⟨y8.drew_left,catOK rfl rfl (by simp [sput]; omega) ?_⟩
    rw [stB_app]
    refine catOK rfl (m:=[32]) rfl (by simp [sput]; omega) ?_
    rw [app32]
    refine H op.val (by omega) x8 fun w9 x9 y9=>⟨y8.drew_left.no y9,catOK rfl rfl (by simp [sput]; omega) (Ar.i64 (by omega) ⟨_,by omega,j+1,by omega,by omega,rfl,?_,x9⟩)⟩
    rw [stB_app,tk,catW_app,show opW1 L[j].2=[sput,hexW L[j].2.key,hexW L[j].2.val] by unfold opW1; rw [hdd]; rfl]
    simp [catW]
  .have hjn:j=c.ops.length:=by omega
   rw [hjn,List.take_length]
   exact rest (rest:=c.ops.flatMap opW1) x14 (by rw [kB (by omega)]; simp [telFs,telF]) rfl
 refine If.beq (fun e=>?_) fun e7=>?_
 .obtain rfl:kk=12:=by omega
  cases hk
  refine ⟨Ext No w7,(Ext.refl _ _).drew,catOK rfl (m:=[32]) rfl (by simp; omega) ⟨v.snap,hv x7 rfl,v.key,hv x7 rfl,?_⟩⟩
  rw [ns,app32]
  refine U (by omega) x7.drew fun w8 x8 y8=>⟨y8.drew_left,catOK rfl rfl (by simp; omega) ?_⟩
  rw [stB_app]
  refine catOK rfl (m:=[32]) rfl (by simp; omega) ?_
  rw [app32]
  refine H r.key (by omega) x8 fun w9 x9 y9=>⟨y8.drew_left.no y9,catOK rfl rfl (by simp; omega) ?_⟩
  rw [stB_app]
  exact rest (rest:=[decB c.snap.toNat,hexW c.key]) x9 (by rw [kB (by omega)]; rfl) (by simp [catW])
 refine If.beq (fun e=>?_) fun e8=>?_
 .obtain rfl:kk=13:=by omega
  cases hk
  refine ⟨Ext No w7,(Ext.refl _ _).drew,catOK rfl (m:=[32]) rfl (by simp; omega) ⟨v.snap,hv x7 rfl,v.frm,hv x7 rfl,v.upto,hv x7 rfl,v.n,hv x7 rfl,?_⟩⟩
  rw [ns,nn,app32]
  refine Ar.u64 (by omega) (U (by omega) x7.drew fun w8 x8 y8=>⟨y8.drew_left,catOK rfl rfl (by simp; omega) ?_⟩)
  rw [stB_app]
  refine catOK rfl (m:=[32]) rfl (by simp; omega) ?_
  rw [app32]
  refine H r.frm (by omega) x8 fun w9 x9 y9=>⟨y8.drew_left.no y9,catOK rfl rfl (by simp; omega) ?_⟩
  rw [stB_app]
  refine catOK rfl (m:=[32]) rfl (by simp; omega) ?_
  rw [app32]
  refine H r.upto (by omega) x9 fun wa xa ya=>⟨(y8.drew_left.no y9).no ya,catOK rfl rfl (by simp; omega) ?_⟩
  rw [stB_app]
  refine catOK rfl (m:=[32]) rfl (by simp; omega) ?_
  rw [app32]
  refine U (by omega) xa fun wb xb yb=>⟨((y8.drew_left.no y9).no ya).no yb,catOK rfl rfl (by simp; omega) ⟨v.back,cb xb rfl,?_⟩⟩
  rw [stB_app]
  have et:telFs [.handle, .snap, .frm, .upto, .count, .way] c=fstW c::[decB c.snap.toNat,hexW c.frm,hexW c.upto,decB c.n.toNat,if c.back then sback else son]:=by rw [kB (by omega)]; rfl
  refine If.cases (fun hb=>?_) fun hb=>?_
  .rw [r.back] at hb
   rw [hb] at et
   refine catOK rfl (m:=32::sback) rfl (by simp [sback]; omega) ?_
   rw [appBack]
   exact rest xb et (by simp [catW])
  .rw [r.back] at hb
   rw [hb] at et
   refine catOK rfl (m:=32::son) rfl (by simp [son]; omega) ?_
   rw [appOn]
   exact rest xb et (by simp [catW])
 refine If.beq (fun e=>?_) fun e9=>?_
 .obtain rfl:kk=15:=by omega
  cases hk
  refine catOK rfl (m:=[32]) rfl (by simp; omega) ⟨v.snap,cb x7 rfl,?_⟩
  rw [ns,app32]
  refine U (by omega) x7 fun w8 x8 y8=>catOK rfl rfl (by simp; omega) ?_
  rw [stB_app]
  exact rest (rest:=[decB c.snap.toNat]) x8 (by rw [kB (by omega)]; rfl) (by simp [catW])
 have h5:kk=2∨kk=3∨kk=5∨kk=14∨kk=16:=by omega
 rcases h5 with rfl | rfl | rfl | rfl | rfl
 .cases hk; exact rest (rest:=[]) x7 (by rw [kA (by omega)]; rfl) (by simp [catW])
 .cases hk; exact rest (rest:=[]) x7 (by rw [kA (by omega)]; rfl) (by simp [catW])
 .cases hk; exact rest (rest:=[]) x7 (by rw [kA (by omega)]; rfl) (by simp [catW])
 .cases hk; exact rest (rest:=[]) x7 (by rw [kB (by omega)]; rfl) (by simp [catW])
 .cases hk; exact rest (rest:=[]) x7 (by rw [kB (by omega)]; rfl) (by simp [catW])
end
end Go.Proofs.YtimonamjecmlcaaGreatDoor
namespace Go.V
theorem RngC.pick{c d:CallP}(r:RngC c)(h:RngC d)(f:FId):RngC (pickF c d f):=by
 cases f with
 | tenant=>exact ⟨r.tenant,h.handle,h.other,h.snap,h.rights⟩
 | handle=>exact ⟨h.tenant,r.handle,h.other,h.snap,h.rights⟩
 | snap=>exact ⟨h.tenant,h.handle,h.other,r.snap,h.rights⟩
 | other=>exact ⟨h.tenant,h.handle,r.other,h.snap,h.rights⟩
 | rights=>exact ⟨h.tenant,h.handle,h.other,h.snap,r.rights⟩
 | way=>show RngC (if c.back then { d with back:=true } else d); split <;> exact ⟨h.tenant,h.handle,h.other,h.snap,h.rights⟩
 | _=>exact ⟨h.tenant,h.handle,h.other,h.snap,h.rights⟩
theorem RngC.picks{c:CallP}(r:RngC c):∀(fs:List FId){d:CallP},RngC d->RngC (fs.foldl (pickF c) d)
 | [],_,h=>h
 | f::fs,_,h=>RngC.picks r fs (r.pick h f)
theorem ask_rng(k:Nat)(W:List Bs):RngC (askP k W):=by
 have h1:=smallD_lt (B:=32) (atD W 1); have h2:=smallD_lt (B:=8) (atD W 2)
 refine ⟨⟨Int.natCast_nonneg _,?_⟩,uD_rng _,uD_rng _,uD_rng _,⟨Int.natCast_nonneg _,?_⟩⟩
 .show ((smallD 32 (atD W 1):Nat):Int) < _; omega
 .show ((smallD 8 (atD W 2):Nat):Int) < _; omega
theorem askD_rng(W:List Bs):RngC (askD W):=by
 unfold askD
 split
 .exact (ask_rng _ _).picks _ (.zero _)
 .exact ask_rng _ _
theorem candE_rng(W:List Bs):RngC (candE W).call:=by
 unfold candE
 split
 .exact .zero _
 split
 .exact .zero _
 split
 .exact .zero _
 split
 .exact .zero _
 split
 .exact .zero _
 .exact askD_rng W
theorem opsD_len:∀(n:Nat)(W:List Bs),(opsD n W).length<=n
 | 0,_=>by simp [opsD]
 | n+1,[]=>by simp [opsD]
 | n+1,x::W=>by
  rw [opsD]
  split
  .rw [List.length_cons]; have:=opsD_len n (W.drop 1); omega
  .rw [List.length_cons]; have:=opsD_len n (W.drop 2); omega
end Go.V
namespace Go.Proofs.YtimonamjecmlcaaGreatDoor
open Go.V
section
variable {w:Wd} {Q:Nat->Prop}
set_option maxHeartbeats 1000000 in
theorem rLine_spec{v:EvV}{e:EvP}{K:ByteArray->Wd->Prop}(r:EvR Q w.heap v e)(may:MayE e)(rg:RngC e.call)(k:∀ w',Ext No w w'->K (stB (lineE e)) w'):C_ref29_Line v.kind v.call.kind v.call.tenant v.call.secret v.call.quota v.call.n v.call.handle v.call.other v.call.snap v.call.rights v.call.ops v.call.key v.call.frm v.call.upto v.call.back v.n v.block v.masks v.bytes w K:=by
 apply S_ref29_Line
 refine NewW.mk fun b w1 n1=>⟨v.kind,Cell.lst n1.get rfl,?_⟩
 have x1:=n1.ext
 have cb:∀{j y},v.cells[j]? = some y->Cell w1 ⟨b,j,none⟩ y:=fun h=>Cell.lst n1.get h
 have hv:∀{j y},v.cells[j]? = some y->Held (Ext No w1) ⟨b,j,none⟩ y:=fun h=>Held.cell (cb h)
 have k':∀{w':Wd}{W:List Bs}{s:Bs},Ext No w1 w'->wordsE e=W->s=joinB 32 W->K (stB s) w':=fun x e1 e2=>by
  rw [e2,<- e1]; exact k _ (x1.no x)
 clear k
 have r0:Ext No w1 w1:=Ext.refl _ _
 rcases may with h | h | h | h | h
 .obtain ⟨hk,hn,hm,⟨hb,hy⟩,g,hg,lb,hc⟩:=h
  rw [r.kind,hk]
  refine If.no (If.no (If.no (If.no (If.no ⟨v.call.kind,cb rfl,v.call.tenant,cb rfl,v.call.secret,cb rfl,v.call.quota,cb rfl,v.call.n,cb rfl,v.call.handle,cb rfl,v.call.other,cb rfl,v.call.snap,cb rfl,v.call.rights,cb rfl,v.call.ops,cb rfl,v.call.key,cb rfl,v.call.frm,cb rfl,v.call.upto,cb rfl,v.call.back,cb rfl,?_⟩))))
  exact rcall_spec (r.no x1).call hg (lb.lim rg) fun w2 x2=>k' x2 (wordsE_1 hk hg) (joinB_cat _ _).symm
 .obtain ⟨hk,hc,hm,⟨hb,hy⟩,hn⟩:=h
  have en:v.n=((e.n.toNat:Nat):Int):=by rw [r.n,nat_of hn.1]
  have dn:=decB_20 (u:=e.n.toNat) (by omega)
  rw [r.kind]
  rcases hk with hk | hk
  .rw [hk]
   refine If.yes ⟨v.n,cb rfl,?_⟩
   rw [en]
   refine Ar.u64 (by omega) (rU_spec (by omega) fun w2 x2=>catOK (l:=wfail++[32]) rfl rfl (by simp [wfail]; omega) ?_)
   rw [show (⟨#[102,97,105,108,32]⟩ : ByteArray)=stB (wfail++[32]) from rfl,stB_app]
   exact k' x2 (wordsE_2 hk) (by simp [joinB])
  .rw [hk]
   refine If.no (If.yes ⟨v.n,cb rfl,?_⟩)
   rw [en]
   refine Ar.u64 (by omega) (rU_spec (by omega) fun w2 x2=>catOK (l:=wcut++[32]) rfl rfl (by simp [wcut]; omega) ?_)
   rw [show (⟨#[99,117,116,32]⟩ : ByteArray)=stB (wcut++[32]) from rfl,stB_app]
   exact k' x2 (wordsE_3 hk) (by simp [joinB])
 .obtain ⟨hk,hc,hn,⟨hb,hy⟩,hl,hm⟩:=h
  rw [r.kind,hk]
  refine If.no (If.no (If.yes ⟨v.masks,cb rfl,rmasks_spec (r.no x1).masks.rd (by omega) hm fun w2 x2=>catOK (l:=wcrash++[32]) rfl rfl ?_ ?_⟩))
  .unfold maskW
   split <;> simp [wcrash] <;> omega
  rw [show (⟨#[99,114,97,115,104,32]⟩ : ByteArray)=stB (wcrash++[32]) from rfl,stB_app]
  exact k' x2 (wordsE_4 hk) (by simp [joinB])
 .obtain ⟨hk,hc,hn,hm,hb,hy⟩:=h
  rw [r.kind,hk]
  refine If.no (If.no (If.no (If.yes ?_)))
  exact k' (s:=wopen) r0 (wordsE_5 hk) rfl
 .obtain ⟨hk,hc,hm,hn,hb,hy1,hy2⟩:=h
  have en:v.n=((e.n.toNat:Nat):Int):=by rw [r.n,nat_of hn.1]
  have eb:v.block=((e.block.toNat:Nat):Int):=by rw [r.block,nat_of hb.1]
  have dn:=decB_20 (u:=e.n.toNat) (by omega); have db:=decB_20 (u:=e.block.toNat) (by omega); have hx:=hexW_len (l:=e.bytes)
  rw [r.kind,hk]
  refine If.no (If.no (If.no (If.no (If.yes ⟨Ext No w1,r0.drew,v.block,hv rfl,?_⟩))))
  rw [eb]
  refine Ar.u64 (by omega) ⟨v.n,hv rfl,?_⟩
  rw [en]
  refine Ar.u64 (by omega) ⟨v.bytes,hv rfl,rU_spec (by omega) fun w2 x2=>⟨x2.drew_left,catOK (l:=wforeign++[32]) rfl rfl (by simp [wforeign]; omega) ?_⟩⟩
  rw [show (⟨#[102,111,114,101,105,103,110,32]⟩ : ByteArray)=stB (wforeign++[32]) from rfl,stB_app]
  refine catOK rfl (m:=[32]) rfl (by simp [wforeign]; omega) ?_
  rw [app32]
  refine rU_spec (by omega) fun w3 x3=>⟨x2.drew_left.no x3,catOK rfl rfl (by simp [wforeign]; omega) ?_⟩
  rw [stB_app]
  refine catOK rfl (m:=[32]) rfl (by simp [wforeign]; omega) ?_
  rw [app32]
  refine rHex_spec ((r.no x1).bytes.rd.no (x2.drew_left.no x3)) (by omega) fun w4 x4=>⟨(x2.drew_left.no x3).no x4,catOK rfl rfl (by simp [wforeign]; omega) ?_⟩
  rw [stB_app]
  exact k' ((x2.drew_left.no x3).no x4) (wordsE_6 hk) (by simp [joinB])
theorem callD_push{bo:Nat}{v:CallV}{c:CallP}{e:OpV}{o:OpP}{x:Value}{K:Sl->Wd->Prop}(d:CallD Q bo w.heap v c)(hbo:bo<=w.heap.size)(he:OpR (fun q=>Q q/\v.ops.blk≠some q) w.heap e o)(hx:Src pz w x 3 1 e.cells)(hz:c.ops.length<=10000000000)
  (hnew:∀ q,w.heap.size<=q->Q q) (k:∀ s w5,CallD Q bo w5.heap { v with ops:=s } { c with ops:=c.ops++[o] }->Ext (fun q=>v.ops.blk=some q) w w5->K s w5):AppW pz 28 28 v.ops x K w:=by
 obtain ⟨L,hL1,hL2,hL3⟩:=d.ops
 have hlen:=OpsR.len d.rd.ops
 refine app_api_Op hL2 hbo hx (by omega) fun s w5 o5 l5 x5 hs=>k s w5 ?_ x5
 have new:∀ q,q < w.heap.size->v.ops.blk≠some q->s.blk≠some q:=fun q hq h1 h2=>by
  rcases hs with h3 | ⟨b,h3,h4⟩
  .exact h1 (h3 ▸ h2)
  .rw [h3] at h2; cases h2; omega
 have byt:∀{s':Sl}{l:Bs},RdQ (fun q=>Q q/\v.ops.blk≠some q) w.heap s' l->RdQ (fun q=>Q q/\s.blk≠some q) w5.heap s' l:=fun r=>(r.lt.ext x5 fun q hq=>hq.1.2).mono fun q hq=>⟨hq.1.1,new q hq.2 hq.1.2⟩
 refine ⟨d.kind,d.tenant,d.quota,d.n,d.handle,d.other,d.snap,d.rights,d.back,byt d.secret,byt d.key,byt d.frm,byt d.upto,fun q hq=>?_,L++[(e,o)],by rw [List.map_append,hL1]; rfl,?_,fun e' he'=>?_⟩
 .simp only at hq
  rcases hs with h3 | ⟨b,h3,h4⟩
  .exact d.opq q (h3 ▸ hq)
  .rw [h3] at hq; cases hq; exact hnew _ h4
 .rw [show opC (L++[(e,o)])=opC L++e.cells by simp [opC]]; exact o5
 .rcases List.mem_append.1 he' with h1 | h1
  .have:=hL3 e' h1; exact ⟨byt this.key,byt this.val,this.drop⟩
  .rw [List.mem_singleton] at h1; subst h1; exact ⟨byt he.key,byt he.val,he.drop⟩
end
end Go.Proofs.YtimonamjecmlcaaGreatDoor
namespace Go.V
def SmC(c:CallP):Prop:=c.secret.length<=1000000/\c.key.length<=1000000/\c.frm.length<=1000000/\c.upto.length<=1000000/\c.ops.length<=1000000/\∀ o∈c.ops,o.key.length<=1000000/\o.val.length<=1000000
end Go.V
namespace Go.Proofs.YtimonamjecmlcaaGreatDoor
open Go.V
section
variable {w:Wd} {Q:Nat->Prop}
theorem app_lit{b base:Nat}{s':Sl}{l:Bs}{K:Sl->Wd->Prop}(hb:w.heap[b]? = some (.cells ([]:List Value).toArray 5 (0,0)))(hbb:base<=b)(r:RdB w.heap s' l)(hn:l.length<=1000000)
  (k:∀ s w',OwnB w'.heap base s l->Ext (·=b) w w'->(s.blk=some b∨∃ q,s.blk=some q/\w.heap.size<=q)->K s w'):AppW pz 25 25 ⟨some ⟨b,0,none⟩,0,0⟩ (.slice s'.a s'.len s'.cap) K w:=by
 have hlt:b < w.heap.size:=by
  rcases Nat.lt_or_ge b w.heap.size with h | h
  .exact h
  .rw [Array.getElem?_eq_none h] at hb; cases hb
 have o:Own w.heap base 5 1 ⟨some ⟨b,0,none⟩,0,0⟩ []:=⟨rfl, .inr ⟨b,[],rfl,hbb,hb,rfl,Nat.le_refl _⟩,by simp⟩
 have hl:s'.len=l.length:=RdB.len r
 refine app_uint8 o (by omega) r.src (by simp only; omega) fun s w' o' _ x hbl=>k s w' (by rw [List.nil_append] at o'; exact o') (x.mono fun q _ h=>by simp [Sl.blk] at h; omega) ?_
 rcases hbl with h | ⟨q,h,hq⟩
 .exact .inl (by rw [h]; rfl)
 .exact .inr ⟨q,h,hq⟩
theorem lit_spec{b:Nat}{w1:Wd}{s':Sl}{l:Bs}{K:Sl->Wd->Prop}(n:New w (.cells ([]:List Value).toArray 5) b w1)(r:RdB w1.heap s' l)(hn:l.length<=1000000)
  (k:∀ s w',OwnB w'.heap w.heap.size s l->Ext No w w'->K s w'):AppW pz 25 25 ⟨some ⟨b,0,none⟩,0,0⟩ (.slice s'.a s'.len s'.cap) K w1:=by
 have hb:=n.at_
 exact app_lit n.get (base:=w.heap.size) (by omega) r hn fun s w' o x _=>k s w' o (n.ext.trans x fun q hq h=>by have h1:q=b:=h; omega)
set_option maxHeartbeats 4000000 in
theorem rcopyCall_spec{v:CallV}{c:CallP}{K:KCl}(r:CallR Q w.heap v c)(sm:SmC c)(k:∀ u w',CallR (w.heap.size<=·) w'.heap u c->Ext No w w'->K.at u w'):C_ref26_CopyCall v.kind v.tenant v.secret v.quota v.n v.handle v.other v.snap v.rights v.ops v.key v.frm v.upto v.back w K:=by
 obtain ⟨sm1,sm2,sm3,sm4,sm5,sm6⟩:=sm
 apply S_ref26_CopyCall
 refine NewW.mk fun b w1 n1=>NewW.mk fun b1 w2 n2=>?_
 have g1:w1.heap[b]? = some (.cells v.cells.toArray 30 (0,0)):=n1.get
 have hb:=n1.at_; have z1:=n1.size; have hb1:=n2.at_; have z2:=n2.size
 refine Cells14.mk (v:=v) (K:=fun c0 c1 c2 c3 c4 c5 c6 c7 c8 c9 c10 c11 c12 c13 w2=>NewW w2 _ _) (get_no g1 n2.ext) ?_
 refine NewW.mk fun b2 w3 n3=>⟨rfl,StN.all n3.get rfl v.one fun w4 g4 x4 _=>?_⟩
 have hb2:=n3.at_; have z3:=n3.size
 have x4':Ext (·=b2) w3 w4:=x4
 have z4:=x4'.size
 have x04:Ext No w w4:=((n1.ext.no n2.ext).no n3.ext).trans x4' fun q hq h=>by omega
 have gb4:w4.heap[b]? = some (.cells v.cells.toArray 30 (0,0)):=get_ext (get_no (get_no g1 n2.ext) n3.ext) x4' (by omega)
 have gb14:w4.heap[b1]? = some (.cells (callV0 0).cells.toArray 30 (0,0)):=get_ext (get_no n2.get n3.ext) x4' (by omega)
 let X:Wd->Prop:=fun w'=>Ext (fun q=>b2<=q) w4 w'
 have xw:∀{w'},X w'->Ext No w w':=fun x=>x04.trans x fun q hq h=>by omega
 have gX:∀{w'},X w'->w'.heap[b]? = some (.cells v.cells.toArray 30 (0,0)):=fun x=>get_ext gb4 x (by omega)
 have gX1:∀{w'},X w'->w'.heap[b1]? = some (.cells (callV0 0).cells.toArray 30 (0,0)):=fun x=>get_ext gb14 x (by omega)
 let C:CallV->Wd->Prop:=fun u w'=>w'.heap[b2]? = some (.cells u.cells.toArray 30 (0,0))
 let Qb:Nat->Prop:=fun q=>b2 < q
 -- one field copied
 have step:∀(u u':CallV)(l:Bs)(s':Sl){w':Wd}{K':Wd->Prop}(j:Nat),X w'->w4.heap.size<=w'.heap.size->C u w'->j < 14->RdB w'.heap s' l->l.length<=1000000->v.cells[j]? = some (.slice s'.a s'.len s'.cap) ->
   (∀ s w'',RdQ Qb w''.heap s l->Ext (·=b2) w' w''->X w''->w4.heap.size<=w''.heap.size->w''.heap[b2]? = some (.cells (u.cells.set j (.slice s.a s.len s.cap)).toArray 30 (0,0))->K' w'') ->
   NewW w' (.cells ([]:List Value).toArray 5) fun b3 w5=>∃ vv:Sl,Cell w5 ((Addr.mk b 0 none).add j) (.slice vv.a vv.len vv.cap)/\AppW pz 25 25 ⟨some (Addr.mk b3 0 none),0,0⟩ (.slice vv.a vv.len vv.cap) (fun s w6=>St1 w6 ((Addr.mk b2 0 none).add j) (.slice s.a s.len s.cap) K') w5:=fun u _ l s' {w' K'} j x z g hj rl hl hc k'=>by
  refine NewW.mk fun b3 w5 n5=>⟨s',by rw [addr_add_none rfl,Nat.zero_add]; exact Cell.lst (get_no (gX x) n5.ext) hc,lit_spec n5 (rl.no n5.ext) hl fun s w6 o6 x6=>?_⟩
  rw [addr_add_none rfl,Nat.zero_add]
  have z6:=x6.size
  refine St1.mk (get_no g x6) (by simpa [CallV.cells] using hj) rfl fun w7 h7=>?_
  have x7:Ext (·=b2) w6 w7:=h7.ext
  have x67:Ext (·=b2) w' w7:=(x6.of_no (S:=(·=b2))).trans x7 fun _ _ h=>h
  refine k' s w7 (.own (o6.ext x7 fun q hq h=>by have:=(o6.lt hq).1; omega) fun q h _=>by show b2 < q; omega) x67 (Ext.trans x x67 fun q hq h=>by omega) (by have:=x7.size; omega) (h7.get (get_no g x6))
 have x44:X w4:=Ext.refl _ _
 have ex:∀{w' w'':Wd}{s':Sl}{l:Bs},RdQ Qb w'.heap s' l->Ext (·=b2) w' w''->RdQ Qb w''.heap s' l:=fun r x=>r.ext x fun q hq h=>by have h1:b2 < q:=hq; omega
 refine step v v c.secret v.secret 2 x44 (Nat.le_refl _) g4 (by decide) (r.no (xw x44)).secret.rd sm1 rfl fun s2 wa r2 xa x z g=>?_
 refine step { v with secret:=s2 } v c.key v.key 10 x z g (by decide) (r.no (xw x)).key.rd sm2 rfl fun s10 wb r10 xb x z g=>?_
 refine step { v with secret:=s2,key:=s10 } v c.frm v.frm 11 x z g (by decide) (r.no (xw x)).frm.rd sm3 rfl fun s11 wc r11 xc x z g=>?_
 refine step { v with secret:=s2,key:=s10,frm:=s11 } v c.upto v.upto 12 x z g (by decide) (r.no (xw x)).upto.rd sm4 rfl fun s12 wd r12 xd x z g=>?_
 have g':C { v with secret:=s2,key:=s10,frm:=s11,upto:=s12 } wd:=g
 rw [addr_add_none rfl,Nat.zero_add]
 refine St1.mk g' (by simp [CallV.cells]) rfl fun we he=>?_
 have xe:Ext (·=b2) wd we:=he.ext
 have xbe:Ext (·=b2) wa we:=(((xb).trans xc fun _ _ h=>h).trans xd fun _ _ h=>h).trans xe fun _ _ h=>h
 have xce:Ext (·=b2) wb we:=((xc).trans xd fun _ _ h=>h).trans xe fun _ _ h=>h
 have xde:Ext (·=b2) wc we:=(xd).trans xe fun _ _ h=>h
 have x0e:X we:=Ext.trans x xe fun q hq h=>by omega
 have ze:w4.heap.size<=we.heap.size:=by have:=xe.size; omega
 have ge:C { v with secret:=s2,key:=s10,frm:=s11,upto:=s12,ops:=⟨none,0,0⟩ } we:=he.get g'
 let bo:=w4.heap.size
 have noq:∀{h:Array Obj}{s':Sl}{l:Bs},RdQ Qb h s' l->RdQ (fun q=>Qb q/\(⟨none,0,0⟩ : Sl).blk≠some q) h s' l:=fun r=>r.mono fun q h=>⟨h,fun h=>by cases h⟩
 have de:CallD Qb bo we.heap { v with secret:=s2,key:=s10,frm:=s11,upto:=s12,ops:=⟨none,0,0⟩ } { c with ops:=c.ops.take 0 } :=
  ⟨r.kind,r.tenant,r.quota,r.n,r.handle,r.other,r.snap,r.rights,r.back,noq (ex r2 xbe),noq (ex r10 xce),noq (ex r11 xde),noq (ex r12 xe),(fun q h=>by cases h),[],rfl,Own.nil _ _ _ _,by simp⟩
 refine ⟨fun m i w'=>∃ (j:Nat) (u:CallV),i=j/\j<=c.ops.length/\m=c.ops.length - j/\X w'/\bo<=w'.heap.size/\C u w'/\CallD Qb bo w'.heap u { c with ops:=c.ops.take j },⟨_,0,_,rfl,Nat.zero_le _,rfl,x0e,ze,ge,de⟩,?_⟩
 clear r2 r10 r11 r12 de ge g' g x0e ze
 rintro _ m0 _ w18 ⟨j,u,rfl,hj,rfl,x,z,g,d⟩
 have gb18:=gX x
 have hol:=OpsR.len r.ops
 have r18:=r.no (xw x)
 refine ⟨v.ops,Cell.lst gb18 rfl,If.dec (fun h=>?_) fun h=>?_⟩
 .have hjl:j < c.ops.length:=by omega
  obtain ⟨L,hL1,hL2,hL3,hL4⟩:=r18.ops
  have hLl:L.length=c.ops.length:=by rw [<- hL1,List.length_map]
  have hjL:j < L.length:=by omega
  have eo:c.ops[j]=L[j].2:=by simp [<- hL1]
  have op:=hL4 L[j] (List.getElem_mem hjL)
  have tk:=take_snoc hjl
  have sml:=sm6 c.ops[j] (List.getElem_mem hjl)
  rw [eo] at tk sml
  have bops:∀ q,u.ops.blk=some q->b2 < q/\q < w18.heap.size:=fun q hq=>by
   obtain ⟨M,_,o,_⟩:=d.ops
   exact ⟨d.opq q hq,(o.lt hq).2⟩
  have nb2:¬ u.ops.blk=some b2:=fun h=>by have:=(bops b2 h).1; omega
  have vlt:∀ q,v.ops.blk=some q->q < w.heap.size:=fun q hq=>by
   obtain ⟨M,e1,o,_⟩:=r.ops
   refine Rd.lt o (fun e=>?_) hq
   have:M=[]:=by
    cases M with
    | nil=>rfl
    | cons p M=>cases e
   rw [<- e1,this] at hjl
   simp at hjl
  have nb:¬ u.ops.blk=some b:=fun h=>by have:=(bops b h).1; omega
  have hb9:Held (Ext (fun q=>u.ops.blk=some q) w18) ((Addr.mk b 0 none).add 9) (.slice v.ops.a v.ops.len v.ops.cap):=by
   rw [addr_add_none rfl]; exact Held.but (Cell.lst gb18 rfl) nb
  have ixO:∀{K':Addr->Prop},(∀ b1 o1,(∀ i y,(L[j].1.cells)[i]? = some y->Held (Ext (fun q=>u.ops.blk=some q) w18) ⟨b1,o1+i,none⟩ y)->K' ⟨b1,o1,none⟩)->Ix v.ops.a v.ops.len ((j:Nat):Int) 3 K':=fun k' =>
   Ix.elem (f:=fun e:OpV×OpP=>e.1.cells) hL2 (opC_len L) (by decide) (by omega) h fun b1 o1 i1 hb1 c1=>k' b1 o1 fun i y hy=>Held.but (c1 i y hy) fun h=>by have:=bops _ h; have:=vlt _ hb1; omega
  generalize L[j].1=ov at *
  generalize L[j].2=oo at *
  have push:∀{wz:Wd}{ks vs:Sl}{I0:Nat->Int->Wd->Prop},Ext No w18 wz->RdQ (fun q=>Qb q/\u.ops.blk≠some q) wz.heap ks oo.key->RdQ (fun q=>Qb q/\u.ops.blk≠some q) wz.heap vs oo.val ->
    (∀ u' w52,X w52->bo<=w52.heap.size->C u' w52->CallD Qb bo w52.heap u' { c with ops:=c.ops.take (j+1) }->∃ m1,m1 < c.ops.length - j/\I0 m1 (j+1:Nat) w52) ->
    NewW wz (.cells [.slice ks.a ks.len ks.cap, .slice vs.a vs.len vs.cap, .bool ov.drop].toArray 54) fun bn w50=>Ext (fun q=>u.ops.blk=some q) w18 w50 /\
     AppW pz 28 28 u.ops (.slice (some (Addr.mk bn 0 none)) 1 1) (fun s w51=>Ext (fun q=>u.ops.blk=some q) w18 w51/\St1 w51 ((Addr.mk b2 0 none).add 9) (.slice s.a s.len s.cap) fun w52=>Ar .i64 (((j:Nat):Int)+1) fun z=>∃ m1,m1 < c.ops.length - j/\I0 m1 z w52) w50:=fun {wz ks vs I0} xz rk rv k2=>by
   refine NewW.mk fun bn w50 n50=>⟨(xz.no n50.ext).of_no,?_⟩
   have x50:=xz.no n50.ext
   have z50:=x50.size
   have ho:OpR (fun q=>Qb q/\u.ops.blk≠some q) wz.heap ⟨ks,vs,ov.drop⟩ oo:=⟨rk,rv,op.drop⟩
   refine callD_push (d.ext x50 fun _ _=>id) (by omega) (ho.ext n50.ext fun _ _=>id) (ops_src n50) (by simp only [List.length_take]; omega) (fun q hq=>by show b2 < q; omega) fun s5 w51 d51 x51=>⟨x50.of_no.trans x51 fun _ _ h=>h,?_⟩
   have x51':Ext (fun q=>u.ops.blk=some q) w50 w51:=x51
   have g51:C u w51:=get_ext (get_no g x50) x51' nb2
   rw [addr_add_none rfl,Nat.zero_add]
   refine St1.mk g51 (by simp [CallV.cells]) rfl fun w52 h52=>Ar.i64 (by omega) ?_
   have x52:Ext (·=b2) w51 w52:=h52.ext
   have:=k2 { u with ops:=s5 } w52 (((Ext.no x x50).trans x51' fun q _ h=>by have:=(bops q h).1; omega).trans x52 fun q _ h=>by omega) (by have:=x51'.size; have:=x52.size; omega) (h52.get g51) (by
    rw [tk]; exact d51.ext x52 fun q hq h=>by have h1:b2 < q:=hq; omega)
   exact this
  have own:∀{wz:Wd}{s':Sl}{l:Bs},OwnB wz.heap w18.heap.size s' l->RdQ (fun q=>Qb q/\u.ops.blk≠some q) wz.heap s' l:=fun o => .own o fun q h1 _=>⟨by show b2 < q; omega,fun h=>by have:=(bops q h).2; omega⟩
  have fin:∀ u' w52,X w52->bo<=w52.heap.size->C u' w52->CallD Qb bo w52.heap u' { c with ops:=c.ops.take (j+1) }->∃ m1,m1 < c.ops.length - j/\∃ (j':Nat) (u:CallV),((j+1:Nat):Int)=j'/\j'<=c.ops.length/\m1=c.ops.length - j'/\X w52/\bo<=w52.heap.size/\C u w52/\CallD Qb bo w52.heap u { c with ops:=c.ops.take j' }:=fun u' w52 a1 a2 a3 a4=>⟨_,by omega,j+1,u',rfl,by omega,rfl,a1,a2,a3,a4⟩
  refine ⟨Ext (fun q=>u.ops.blk=some q) w18,(Ext.refl _ _).drew,u.ops,?_,v.ops,hb9,ixO fun _ _ c1=>⟨ov.key,c1 0 _ rfl,v.ops,hb9,ixO fun _ _ c2=>⟨ov.val,c2 1 _ rfl,v.ops,hb9,ixO fun _ _ c3=>⟨ov.drop,c3 2 _ rfl,?_⟩⟩⟩⟩
  .exact Held.but (Cell.lst g rfl) nb2
  have ok:=op.key.rd; have ow:=op.val.rd
  have wd:∀{wz:Wd},Ext No (drewW w18) wz->Ext No w18 wz:=fun x=>x.drew_left
  refine ⟨NewW.mk fun b7 w19 n19=>⟨n19.ext.drew_left.of_no,?_,?_⟩,NewW.mk fun b7 w19 n19=>⟨n19.ext.drew_left.of_no,NewW.mk fun b10 w26 n26=>⟨(n19.ext.drew_left.no n26.ext).of_no,?_⟩⟩⟩
  .have x19:=n19.ext.drew_left
   refine lit_spec n19 (ok.no x19) sml.1 fun ks w20 o20 x20=>?_
   have xz:=wd x20
   have zz:=xz.size
   refine ⟨xz.of_no,NewW.mk fun b8 w21 n21=>⟨(xz.no n21.ext).of_no,lit_spec n21 (ow.no (xz.no n21.ext)) sml.2 fun vs w22 o22 x22=>⟨(xz.no x22).of_no,?_⟩⟩⟩
   exact push (xz.no x22) (own (o20.no x22)) (own (o22.mono zz)) fin
  .have x19:=n19.ext.drew_left
   refine NewW.mk fun b10 w26 n26=>⟨(x19.no n26.ext).of_no,?_⟩
   have h7:=n19.at_; have h10:=n26.at_; have y19:=n19.size; have y26:=n26.size
   have hw:(drewW w18).heap.size=w18.heap.size:=rfl
   have x26:=x19.no n26.ext
   refine app_lit (get_no n19.get n26.ext) (base:=w18.heap.size) (by omega) (ok.no x26) sml.1 fun ks w27 o27 x27 b27=>?_
   have x27':Ext (·=b7) w26 w27:=x27
   have y27:=x27'.size
   have xz:Ext No w18 w27:=x26.trans x27' fun q hq h=>by omega
   refine ⟨xz.of_no,app_lit (get_ext n26.get x27' (by omega)) (base:=w18.heap.size) (by omega) (ow.no xz) sml.2 fun vs w28 o28 x28 _=>?_⟩
   have x28':Ext (·=b10) w27 w28:=x28
   have xz2:Ext No w18 w28:=xz.trans x28' fun q hq h=>by omega
   exact ⟨xz2.of_no,push xz2 (own (o27.ext x28' fun q hq h=>by
    rcases b27 with h1 | ⟨q2,h1,h2⟩ <;> (rw [h1] at hq; cases hq; omega))) (own o28) fin⟩
  .have x19:=n19.ext.drew_left
   have h7:=n19.at_; have h10:=n26.at_; have y19:=n19.size; have y26:=n26.size
   have hw:(drewW w18).heap.size=w18.heap.size:=rfl
   have x26:=x19.no n26.ext
   refine app_lit n26.get (base:=w18.heap.size) (by omega) (ok.no x26) sml.1 fun ks w27 o27 x27 b27=>?_
   have x27':Ext (·=b10) w26 w27:=x27
   have y27:=x27'.size
   have xz:Ext No w18 w27:=x26.trans x27' fun q hq h=>by omega
   refine ⟨xz.of_no,app_lit (get_ext (get_no n19.get n26.ext) x27' (by omega)) (base:=w18.heap.size) (by omega) (ow.no xz) sml.2 fun vs w28 o28 x28 _=>?_⟩
   have x28':Ext (·=b7) w27 w28:=x28
   have xz2:Ext No w18 w28:=xz.trans x28' fun q hq h=>by omega
   exact ⟨xz2.of_no,push xz2 (own (o27.ext x28' fun q hq h=>by
    rcases b27 with h1 | ⟨q2,h1,h2⟩ <;> (rw [h1] at hq; cases hq; omega))) (own o28) fin⟩
 .have gb1:=gX1 x
  have hjn:j=c.ops.length:=by omega
  have rc:=d.rd
  rw [hjn,List.take_length] at rc
  refine Cells14.mk (v:=u) (K:=Copy14 b1 K) g ⟨rfl,StN.all gb1 rfl u.one fun w61 g61 x61 _=>?_⟩
  have x61':Ext (·=b1) w18 w61:=x61
  refine Cells14.mk g61 (k u w61 ((rc.ext x61' fun q hq h=>by have h1:b2 < q:=hq; omega).mono fun q hq=>by have h1:b2 < q:=hq; omega) ?_)
  exact (xw x).trans x61' fun q hq h=>by omega
end
section
variable {w:Wd} {Q:Nat->Prop}
set_option maxHeartbeats 4000000 in
theorem asked_spec{s:Sl}{W:List Bs}{K:KCl}(r:RdW w.heap s W)(hne:W≠[])(sm:SmW W)(k:∀ u w',CallR (w.heap.size<=·) w'.heap u (askD W)->Ext No w w'->K.at u w'):C_ref29_asked s w K:=by
  apply S_ref29_asked
  refine NewW.mk fun b w1 n1=>NewW.mk fun b1 w2 n2=>⟨rfl,StN.all n2.get rfl (CallV.one (callV0 0)) fun w3 g3 x3 _=>?_⟩
  have x3':Ext (·=b1) w2 w3:=x3
  have hb:=n1.at_; have z1:=n1.size; have hb1:=n2.at_; have z2:=n2.size; have z3:=x3'.size
  have x03:Ext No w w3:=(n1.ext.no n2.ext).trans x3' fun q hq h=>by omega
  have gb3:w3.heap[b]? = some (.cells (callV0 0).cells.toArray 30 (0,0)):=get_ext (get_no n1.get n2.ext) x3' (by omega)
  have hsl:=RdW.len r
  have hsz:=sm.1
  have hat:∀ i,(atD W i).length<=100000000:=fun i=>by
    unfold atD
    rw [List.getD_eq_getElem?_getD]
    cases h:W[i]? with
    | none=>simp
    | some x=>exact sm.2 x (List.mem_of_getElem? h)
  -- the kind
  refine ⟨fun m kz w'=>∃ kk kd:Nat,kz=kk/\1<=kk/\kk<=17/\m=17 - kk/\Ext (·=b1) w3 w'/\w'.heap[b1]? = some (.cells (callV0 kd).cells.toArray 30 (0,0))/\(∀ k fs,findF (atD W 0)=some (k,fs)->k < kk->kd=k)/\((∀ k fs,findF (atD W 0)=some (k,fs)->kk<=k)->kd=0),⟨_,1,0,rfl,Nat.le_refl _,by omega,rfl,Ext.refl _ _,g3,fun k fs h h1=>by have:=formP_lt (findF_some h); omega,fun _=>rfl⟩,?_⟩
  rintro _ m0 _ w4 ⟨kk,kd,rfl,h1k,h17,rfl,x4,g4,hk1,hk2⟩
  have x04:Ext No w w4:=x03.trans x4 fun q hq h=>by omega
  refine If.dec (fun h=>?_) fun h=>?_
  · have hw0:0 < W.length:=List.length_pos_iff.2 hne
    refine ⟨Ext No w4,(Ext.refl _ _).drew,ixW (r.no x04) (Int.le_refl _) (by omega) fun bb oo hi _ hc=>⟨_,Held.cell hc,?_⟩⟩
    have e0:W[(0:Int).toNat]'hi=atD W 0:=by unfold atD; rw [List.getD_eq_getElem?_getD,List.getElem?_eq_getElem hw0]; rfl
    rw [e0]
    obtain ⟨g,hg⟩ : ∃ g,formP kk=some g:=by
      have:=formI_some.1 (show 1<=((kk:Nat):Int)/\((kk:Nat):Int)<=16 by omega)
      obtain ⟨g,hg⟩:=this
      obtain ⟨k',e',hk'⟩:=formI_nat hg
      have:k'=kk:=by omega
      exact ⟨g,this ▸ hk'⟩
    refine rword_spec (wordsL_form kk g hg) fun w5 x5=>⟨x5.drew_left,eqStr (fun e=>?_) fun e=>?_⟩
    · have ff:findF (atD W 0)=some (kk,g.2):=by rw [<- e]; exact findF_form kk g hg
      have g5:=get_no g4 x5.drew_left
      refine St1.mk (o:=0) g5 (by simp [CallV.cells]) rfl fun w6 h6=>Ar.i64 (by omega) ⟨17 - (kk+1),by omega,kk+1,kk,by omega,by omega,by omega,rfl,?_,h6.get g5,fun k fs h h2=>?_,fun h2=>?_⟩
      · have x6:Ext (·=b1) w5 w6:=h6.ext
        exact (x4.no x5.drew_left).trans x6 fun _ _ h=>h
      · rw [ff] at h; cases h; rfl
      · have:=h2 _ _ ff; omega
    · have nf:∀ k fs,findF (atD W 0)=some (k,fs)->k≠kk:=fun k fs h h2=>by
        have h3:=findF_some h
        rw [h2,hg] at h3; cases h3; exact e rfl
      refine Ar.i64 (by omega) ⟨17 - (kk+1),by omega,kk+1,kd,by omega,by omega,by omega,rfl,x4.no x5.drew_left,get_no g4 x5.drew_left,fun k fs h h2=>hk1 k fs h (by have:=nf k fs h; omega),fun h2=>hk2 fun k fs h=>by have:=h2 k fs h; omega⟩
  -- the fields
  have kdE:∀{c:CallP},(match findF (atD W 0) with | some (k,fs)=>kd=k/\c=bareF fs (askP k W) | none=>kd=0/\c=askP 0 W)->c=askD W:=fun {c} h=>by
    unfold askD
    cases hf:findF (atD W 0) with
    | none=>rw [hf] at h; exact h.2
    | some p=>obtain ⟨k,fs⟩:=p; rw [hf] at h; exact h.2
  have kd1:∀ k fs,findF (atD W 0)=some (k,fs)->kd=k:=fun k fs h=>hk1 k fs h (by have:=formP_lt (findF_some h); omega)
  have kd0:findF (atD W 0)=none->kd=0:=fun h=>hk2 fun k fs h2=>by rw [h] at h2; cases h2
  clear hk1 hk2
  let Qb:Nat->Prop:=fun q=>b1 < q
  let X:Wd->Prop:=fun w'=>Ext (fun q=>b1<=q) w3 w'
  have xw:∀{w'},X w'->Ext No w w':=fun x=>x03.trans x fun q hq h=>by omega
  have x04':X w4:=x4.mono fun q _ h=>by omega
  let bo:=w3.heap.size
  let A:Nat->Nat->Nat->Nat->Nat->Nat->Nat->Sl->Sl->Sl->Sl->Bool->CallV:=fun t q n ha ot sn ri s2 s10 s11 s12 bk=>⟨kd,t,s2,q,n,ha,ot,sn,ri,⟨none,0,0⟩,s10,s11,s12,bk⟩
  have st:∀{t q n ha ot sn ri s2 s10 s11 s12 bk}(t' q' n' ha' ot' sn' ri':Nat)(s2' s10' s11' s12':Sl)(bk':Bool){w':Wd}{K':Wd->Prop}(j:Nat)(y:Value),X w'->bo<=w'.heap.size->w'.heap[b1]? = some (.cells (A t q n ha ot sn ri s2 s10 s11 s12 bk).cells.toArray 30 (0,0))->j < 14->oneC y=true->(A t q n ha ot sn ri s2 s10 s11 s12 bk).cells.set j y=(A t' q' n' ha' ot' sn' ri' s2' s10' s11' s12' bk').cells ->
      (∀ w'',Ext (·=b1) w' w''->X w''->bo<=w''.heap.size->w''.heap[b1]? = some (.cells (A t' q' n' ha' ot' sn' ri' s2' s10' s11' s12' bk').cells.toArray 30 (0,0))->K' w'')->St1 w' ((Addr.mk b1 0 none).add j) y K':=fun {t q n ha ot sn ri s2 s10 s11 s12 bk} t' q' n' ha' ot' sn' ri' s2' s10' s11' s12' bk' {w' K'} j y x hz gu hj hy hu k'=>by
    rw [addr_add_none rfl,Nat.zero_add]
    refine St1.mk gu (by simpa [CallV.cells] using hj) hy fun w'' h''=>?_
    have x2:Ext (·=b1) w' w'':=h''.ext
    have g2:=h''.get gu
    rw [hu] at g2
    exact k' w'' x2 (Ext.trans x x2 fun q hq h=>by omega) (by have:=x2.size; omega) g2
  have at_:∀{w':Wd}(i:Nat){K':ByteArray->Wd->Prop},X w'->K' (stB (atD W i)) w'->C_ref29_at s (i:Int) w' K':=fun i K' x k'=>rat_spec (r.no (xw x)) k'
  have hx:∀{w':Wd}{v:CallV}(i:Nat){K':Sl->Wd->Prop},X w'->bo<=w'.heap.size->w'.heap[b1]? = some (.cells v.cells.toArray 30 (0,0)) ->
      (∀ s w'',X w''->bo<=w''.heap.size->w''.heap[b1]? = some (.cells v.cells.toArray 30 (0,0))->RdQ Qb w''.heap s (hxD (atD W i))->Ext (·=b1) w' w''->K' s w'')->C_ref29_hex (stB (atD W i)) w' K':=fun {w' v} i {K'} x hz g k' =>
    rhex_spec (hat i) fun s' w'' o x'=>k' s' w'' (Ext.no x x') (by have:=x'.size; omega) (get_no g x') (.own o fun q h1 h2=>by show b1 < q; omega) x'.of_no
  have z4:bo<=w4.heap.size:=x4.size
  have ex:∀{w' w'':Wd}{s':Sl}{l:Bs},RdQ Qb w'.heap s' l->Ext (·=b1) w' w''->RdQ Qb w''.heap s' l:=fun r x=>r.ext x fun q hq h=>by have h1:b1 < q:=hq; omega
  have tr:∀{a b c:Wd},Ext (·=b1) a b->Ext (·=b1) b c->Ext (·=b1) a c:=fun h k=>h.trans k fun _ _ h=>h
  have noq:∀{h:Array Obj}{s':Sl}{l:Bs},RdQ Qb h s' l->RdQ (fun q=>Qb q/\(⟨none,0,0⟩ : Sl).blk≠some q) h s' l:=fun r=>r.mono fun q h=>⟨h,fun h=>by cases h⟩
  have s32:=smallD_lt (B:=32) (atD W 1)
  have s8:=smallD_lt (B:=8) (atD W 2)
  obtain ⟨t,et⟩ : ∃ t,t=smallD 32 (atD W 1):=⟨_,rfl⟩
  obtain ⟨ha,eha⟩ : ∃ t,t=uD (atD W 1):=⟨_,rfl⟩
  obtain ⟨ot,eot⟩ : ∃ t,t=uD (atD W 2):=⟨_,rfl⟩
  obtain ⟨ri,eri⟩ : ∃ t,t=smallD 8 (atD W 2):=⟨_,rfl⟩
  obtain ⟨q3,eq3⟩ : ∃ t,t=numD (atD W 3):=⟨_,rfl⟩
  obtain ⟨n2,en2⟩ : ∃ t,t=numD (atD W 2):=⟨_,rfl⟩
  obtain ⟨n5,en5⟩ : ∃ t,t=numD (atD W 5):=⟨_,rfl⟩
  let z0:Sl:=⟨none,0,0⟩
  have gA:w4.heap[b1]? = some (.cells (A 0 0 0 0 0 0 0 z0 z0 z0 z0 false).cells.toArray 30 (0,0)):=g4
  refine at_ 1 x04' (rsmall_spec (B:=32) (by decide) (Ar.u32 (by omega) ?_))
  rw [<- et]
  refine st t 0 0 0 0 0 0 z0 z0 z0 z0 false 1 _ x04' z4 gA (by decide) rfl rfl fun wa _ x z g=>at_ 1 x (ru_spec ?_)
  rw [<- eha]
  refine st t 0 0 ha 0 0 0 z0 z0 z0 z0 false 5 _ x z g (by decide) rfl rfl fun wa _ x z g=>at_ 2 x (ru_spec ?_)
  rw [<- eot]
  refine st t 0 0 ha ot 0 0 z0 z0 z0 z0 false 6 _ x z g (by decide) rfl rfl fun wa _ x z g=>at_ 2 x (rsmall_spec (B:=8) (by decide) (Ar.u8 (by omega) ?_))
  rw [<- eri]
  refine st t 0 0 ha ot 0 ri z0 z0 z0 z0 false 8 _ x z g (by decide) rfl rfl fun wa _ x z g=>at_ 2 x (ru_spec ?_)
  rw [<- eot]
  refine st t 0 0 ha ot ot ri z0 z0 z0 z0 false 7 _ x z g (by decide) rfl rfl fun wa _ x z g=>at_ 2 x (hx 2 x z g fun s2 wb x z g r2 _=>?_)
  refine st t 0 0 ha ot ot ri s2 z0 z0 z0 false 2 _ x z g (by decide) rfl rfl fun wc e1 x z g=>at_ 3 x (hx 3 x z g fun s10 wd x z g r10 e2=>?_)
  have f2:=tr e1 e2
  refine st t 0 0 ha ot ot ri s2 s10 z0 z0 false 10 _ x z g (by decide) rfl rfl fun wc e3 x z g=>at_ 3 x (hx 3 x z g fun s11 we x z g r11 e4=>?_)
  have f10:=tr e3 e4
  refine st t 0 0 ha ot ot ri s2 s10 s11 z0 false 11 _ x z g (by decide) rfl rfl fun wc e5 x z g=>at_ 4 x (hx 4 x z g fun s12 wf x z g r12 e6=>?_)
  have f11:=tr e5 e6
  refine st t 0 0 ha ot ot ri s2 s10 s11 s12 false 12 _ x z g (by decide) rfl rfl fun wg e7 x z g=>at_ 3 x (rnum_spec ?_)
  rw [<- eq3]
  refine st t q3 0 ha ot ot ri s2 s10 s11 s12 false 3 _ x z g (by decide) rfl rfl fun wh e8 x z g=>at_ 2 x (rnum_spec ?_)
  rw [<- en2]
  refine st t q3 n2 ha ot ot ri s2 s10 s11 s12 false 4 _ x z g (by decide) rfl rfl fun wi e9 x z g=>?_
  have r12:=ex r12 (tr e7 (tr e8 e9))
  have r11:=ex r11 (tr f11 (tr e7 (tr e8 e9)))
  have r10:=ex r10 (tr f10 (tr f11 (tr e7 (tr e8 e9))))
  have r2:=ex r2 (tr f2 (tr f10 (tr f11 (tr e7 (tr e8 e9)))))
  refine ⟨fun w'=>∃ u:CallV,X w'/\bo<=w'.heap.size/\w'.heap[b1]? = some (.cells u.cells.toArray 30 (0,0))/\CallD Qb bo w'.heap u { askP kd W with ops:=[] },⟨(kd:Int),Cell.lst g rfl,If.beq (fun e=>?_) fun e=>⟨A t q3 n2 ha ot ot ri s2 s10 s11 s12 false,x,z,g,?_⟩⟩,?_⟩
  · have e13:kd=13:=by omega
    refine at_ 5 x (rnum_spec ?_)
    rw [<- en5]
    refine st t q3 n5 ha ot ot ri s2 s10 s11 s12 false 4 _ x z g (by decide) rfl rfl fun wj e10 x z g=>at_ 6 x ?_
    have eb:(ByteArray.toList (stB (atD W 6)) == ByteArray.toList (⟨#[98,97,99,107]⟩ : ByteArray))=decide (atD W 6=sback):=by
      rw [show (⟨#[98,97,99,107]⟩ : ByteArray)=stB sback from rfl,stB_toList,stB_toList]
      exact Bool.beq_eq_decide_eq _ _
    rw [eb]
    refine st t q3 n5 ha ot ot ri s2 s10 s11 s12 (decide (atD W 6=sback)) 13 _ x z g (by decide) rfl rfl fun wk e11 x z g=>⟨A t q3 n5 ha ot ot ri s2 s10 s11 s12 (decide (atD W 6=sback)),x,z,g,?_⟩
    have e12:=tr e10 e11
    have ec:({ askP kd W with ops:=[] }:CallP)={ kind:=(kd:Int),tenant:=t,secret:=hxD (atD W 2),quota:=q3,n:=n5,handle:=ha,other:=ot,snap:=ot,rights:=ri,ops:=[],key:=hxD (atD W 3),frm:=hxD (atD W 3),upto:=hxD (atD W 4),back:=decide (atD W 6=sback) }:=by
      subst et; subst eha; subst eot; subst eri; subst eq3; subst en5
      unfold askP; simp [e13]
    rw [ec]
    exact ⟨rfl,rfl,rfl,rfl,rfl,rfl,rfl,rfl,rfl,noq (ex r2 e12),noq (ex r10 e12),noq (ex r11 e12),noq (ex r12 e12),(fun q h=>by cases h),[],rfl,Own.nil _ _ _ _,by simp⟩
  · have e13:kd≠13:=by omega
    have ec:({ askP kd W with ops:=[] }:CallP)={ kind:=(kd:Int),tenant:=t,secret:=hxD (atD W 2),quota:=q3,n:=n2,handle:=ha,other:=ot,snap:=ot,rights:=ri,ops:=[],key:=hxD (atD W 3),frm:=hxD (atD W 3),upto:=hxD (atD W 4),back:=false }:=by
      subst et; subst eha; subst eot; subst eri; subst eq3; subst en2
      unfold askP; simp [e13]
    rw [ec]
    exact ⟨rfl,rfl,rfl,rfl,rfl,rfl,rfl,rfl,rfl,noq r2,noq r10,noq r11,noq r12,(fun q h=>by cases h),[],rfl,Own.nil _ _ _ _,by simp⟩
  clear st et eha eot eri eq3 en2 en5
  have hxd:∀{w':Wd}{u:CallV}{c:CallP}(i:Nat){K':Sl->Wd->Prop},X w'->bo<=w'.heap.size->w'.heap[b1]? = some (.cells u.cells.toArray 30 (0,0))->CallD Qb bo w'.heap u c ->
      (∀ s w'',X w''->bo<=w''.heap.size->w''.heap[b1]? = some (.cells u.cells.toArray 30 (0,0))->CallD Qb bo w''.heap u c->OwnB w''.heap w'.heap.size s (hxD (atD W i))->Ext No w' w''->K' s w'')->C_ref29_hex (stB (atD W i)) w' K':=fun {w' u c} i {K'} x hz g d k' =>
    rhex_spec (hat i) fun s' w'' o x'=>k' s' w'' (Ext.no x x') (by have:=x'.size; omega) (get_no g x') (d.ext x' fun _ _=>id) o x'
  rintro _ w45 ⟨u,x,z,g,d⟩
  refine ⟨fun w'=>∃ u:CallV,X w'/\bo<=w'.heap.size/\w'.heap[b1]? = some (.cells u.cells.toArray 30 (0,0))/\CallD Qb bo w'.heap u (askP kd W),?_,?_⟩
  · refine ⟨fun m i w'=>∃ (j:Nat) (u:CallV) (done:List OpP),i=j/\2<=j/\j<=W.length+3/\m=W.length+3 - j/\X w'/\bo<=w'.heap.size/\w'.heap[b1]? = some (.cells u.cells.toArray 30 (0,0))/\CallD Qb bo w'.heap u { askP kd W with ops:=done }/\done.length<=200 /\
      (kd=11->opsD 200 (W.drop 2)=done++opsD (200 - done.length) (W.drop j))/\(kd≠11->done=[]),⟨_,2,u,[],rfl,Nat.le_refl _,by omega,rfl,x,z,g,d,by simp,fun _=>by simp,fun _=>rfl⟩,?_⟩
    rintro _ m0 _ w46 ⟨j,u,done,rfl,hj2,hjn,rfl,x,z,g,d,hd2,h11,hn11⟩
    have fin:(kd=11->opsD (200 - done.length) (W.drop j)=[])->∃ u:CallV,X w46/\bo<=w46.heap.size/\w46.heap[b1]? = some (.cells u.cells.toArray 30 (0,0))/\CallD Qb bo w46.heap u (askP kd W):=fun he=>by
      have ed:({ askP kd W with ops:=done }:CallP)=askP kd W:=by
        have:(askP kd W).ops=done:=by
          show (if kd=11 then opsD 200 (W.drop 2) else [])=done
          by_cases h:kd=11
          · rw [if_pos h,h11 h,he h,List.append_nil]
          · rw [if_neg h,hn11 h]
        rw [<- this]
      rw [ed] at d
      exact ⟨u,x,z,g,d⟩
    have opn:∀ n,opsD n []=[]:=fun n=>by cases n <;> rfl
    have hol:=OpsR.len d.rd.ops
    have hol':u.ops.len=done.length:=hol
    refine ⟨fun w'=>w'=w46/\j < W.length/\kd=11/\done.length < 200,If.dec (fun h=>⟨_,Cell.lst g rfl,?_⟩) fun h=>fin fun _=>?_,?_⟩
    · have ek:=d.kind
      have ek':u.kind=(kd:Int):=ek
      rw [ek']
      exact If.beq (fun e=>⟨_,Cell.lst g rfl,If.dec (fun h3=>⟨rfl,by omega,by omega,by omega⟩) fun h3=>fin fun _=>by rw [show 200 - done.length=0 by omega]; rfl⟩) fun e=>fin fun h3=>by omega
    · rw [List.drop_eq_nil_iff.2 (by omega),opn]
    rintro _ w46 ⟨rfl,hjl,e11,hd3⟩
    have hdr:W.drop j=W[j]::W.drop (j+1):=List.drop_eq_getElem_cons hjl
    have hop:=h11 e11
    obtain ⟨n,hn⟩ : ∃ n,200 - done.length=n+1:=⟨200 - done.length - 1,by omega⟩
    rw [hn,hdr] at hop
    have a0:atD (W.drop (j+1)) 0=atD W (j+1):=by unfold atD; simp [List.getD_eq_getElem?_getD]
    have a1:atD (W.drop (j+1)) 1=atD W (j+2):=by unfold atD; simp [List.getD_eq_getElem?_getD,Nat.add_assoc]
    have xd:X (drewW w46):=Ext.drew x
    have bops:∀ q,u.ops.blk=some q->b1 < q/\q < w46.heap.size:=fun q hq=>by
      obtain ⟨L,_,o,_⟩:=d.ops
      exact ⟨d.opq q hq,(o.lt hq).2⟩
    have nb1:¬ u.ops.blk=some b1:=fun h=>by have:=(bops b1 h).1; omega
    refine ixW (r.no (xw x)) (by omega) (by omega) fun bb oo hi _ hc=>⟨_,hc,?_⟩
    have ew:W[((j:Nat):Int).toNat]'hi=W[j]:=rfl
    rw [ew]
    have hh:Held (Ext (fun q=>u.ops.blk=some q) w46) ((Addr.mk b1 0 none).add 9) (.slice u.ops.a u.ops.len u.ops.cap):=by
      rw [addr_add_none rfl]; exact Held.but (Cell.lst g rfl) nb1
    have i1:((j:Nat):Int)+1=((j+1:Nat):Int):=by omega
    have i2:((j:Nat):Int)+2=((j+2:Nat):Int):=by omega
    have push:∀{w50:Wd}{e:OpV}{o:OpP}{bn:Nat}{wz:Wd}{K2:Wd->Prop},Ext No w46 wz->New wz (.cells e.cells.toArray 54) bn w50->OpR (fun q=>Qb q/\u.ops.blk≠some q) wz.heap e o ->
        (∀ u' w52,X w52->bo<=w52.heap.size->w52.heap[b1]? = some (.cells (CallV.cells u').toArray 30 (0,0))->CallD Qb bo w52.heap u' { askP kd W with ops:=done++[o] }->K2 w52) ->
        AppW pz 28 28 u.ops (.slice (some (Addr.mk bn 0 none)) 1 1) (fun s w51=>Ext (fun q=>u.ops.blk=some q) w46 w51/\St1 w51 ((Addr.mk b1 0 none).add 9) (.slice s.a s.len s.cap) K2) w50:=fun {w50 e o bn wz K2} xz n50 he k2=>by
      have x50:=xz.no n50.ext
      have z50:=x50.size
      refine callD_push (d.ext x50 fun _ _=>id) (by omega) (he.ext n50.ext fun _ _=>id) (ops_src n50) (by simp only; omega) (fun q hq=>by show b1 < q; omega) fun s5 w51 d51 x51=>⟨x50.of_no.trans x51 fun _ _ h=>h,?_⟩
      have x51':Ext (fun q=>u.ops.blk=some q) w50 w51:=x51
      have g51:=get_ext (get_no g x50) x51' nb1
      rw [addr_add_none rfl,Nat.zero_add]
      refine St1.mk g51 (by simp [CallV.cells]) rfl fun w52 h52=>?_
      have x52:Ext (·=b1) w51 w52:=h52.ext
      refine k2 { u with ops:=s5 } w52 ?_ (by have:=x51'.size; have:=x52.size; omega) (h52.get g51) (d51.ext x52 fun q hq h=>by have h1:b1 < q:=hq; omega)
      exact ((Ext.no x x50).trans x51' fun q _ h=>by have:=(bops q h).1; omega).trans x52 fun q _ h=>by omega
    have lenE:∀ o:OpP,200 - (done++[o]).length=n:=fun o=>by rw [List.length_append,List.length_singleton]; omega
    have opR:∀{w1 w2:Wd}{s1:Sl}{l1:Bs},OwnB w2.heap w1.heap.size s1 l1->w46.heap.size<=w1.heap.size->RdQ (fun q=>Qb q/\u.ops.blk≠some q) w2.heap s1 l1:=fun o hz => .own o fun q h1 _=>⟨by show b1 < q; omega,fun h=>by have:=(bops q h).2; omega⟩
    refine eqStr (b:=sdrop) (fun ed=>?_) fun ed=>?_
    · rw [opsD,if_pos ed,a0,List.drop_drop,show j+1+1=j+2 by omega] at hop
      refine ⟨Ext (fun q=>u.ops.blk=some q) w46,(Ext.refl _ _).drew,u.ops,hh,Ar.i64 (by omega) ?_⟩
      rw [i1]
      refine at_ (j+1) xd ⟨(Ext.refl _ _).drew,hxd (j+1) xd z g d fun s1 w49 x49 z49 g49 d49 o49 y49=>⟨y49.drew_left.of_no,NewW.mk fun bn w50 n50=>⟨(y49.drew_left.no n50.ext).of_no,?_⟩⟩⟩
      refine push (e:=⟨s1,⟨none,0,0⟩,true⟩) (o:=⟨hxD (atD W (j+1)),[],true⟩) y49.drew_left n50 ⟨opR o49 (Nat.le_refl _),RdQ.nil _ _,rfl⟩ fun u' w52 x z g d=>Ar.i64 (by omega) ?_
      rw [i2]
      exact ⟨_,by omega,j+2,u',_,rfl,by omega,by omega,rfl,x,z,g,d,by rw [List.length_append,List.length_singleton]; omega,fun _=>by rw [lenE,hop,List.append_assoc]; rfl,fun h=>absurd e11 h⟩
    · rw [opsD,if_neg ed,a0,a1,List.drop_drop,show j+1+2=j+3 by omega] at hop
      refine ⟨Ext (fun q=>u.ops.blk=some q) w46,(Ext.refl _ _).drew,u.ops,hh,Ar.i64 (by omega) (Ar.i64 (by omega) ?_)⟩
      rw [i1,i2]
      refine at_ (j+1) xd ⟨(Ext.refl _ _).drew,hxd (j+1) xd z g d fun s1 w49 x49 z49 g49 d49 o49 y49=>⟨y49.drew_left.of_no,at_ (j+2) x49 ⟨y49.drew_left.of_no,hxd (j+2) x49 z49 g49 d49 fun s2 wb xb zb gb db ob yb=>⟨(y49.drew_left.no yb).of_no,NewW.mk fun bn w50 n50=>⟨((y49.drew_left.no yb).no n50.ext).of_no,?_⟩⟩⟩⟩⟩
      have z49':=y49.drew_left.size
      refine push (e:=⟨s1,s2,false⟩) (o:=⟨hxD (atD W (j+1)),hxD (atD W (j+2)),false⟩) (y49.drew_left.no yb) n50 ⟨(opR o49 (Nat.le_refl _)).no yb,opR ob z49',rfl⟩ fun u' w52 x z g d=>Ar.i64 (by omega) ?_
      rw [show ((j:Nat):Int)+3=((j+3:Nat):Int) by omega]
      exact ⟨_,by omega,j+3,u',_,rfl,by omega,by omega,rfl,x,z,g,d,by rw [List.length_append,List.length_singleton]; omega,fun _=>by rw [lenE,hop,List.append_assoc]; rfl,fun h=>absurd e11 h⟩
  rintro _ w60 ⟨u,x,z,g,d⟩
  have gb60:w60.heap[b]? = some (.cells (callV0 0).cells.toArray 30 (0,0)):=get_ext gb3 x (by omega)
  have eku:u.kind=(kd:Int):=d.kind
  have res:∀{w61 w62:Wd}{u':CallV},Ext No w60 w61->CallR Qb w61.heap u' (askD W)->w62.heap[b]? = some (.cells u'.cells.toArray 30 (0,0))->Ext (·=b) w61 w62->Cells14 w62 b K:=fun {w61 w62 u'} x1 rc g2 x2=>by
    refine Cells14.mk g2 (k u' w62 ((rc.ext x2 fun q hq h=>by have h1:b1 < q:=hq; omega).mono fun q hq=>by have h1:b1 < q:=hq; omega) ?_)
    exact ((xw x).no x1).trans x2 fun q hq h=>by omega
  have fo:kd=0∨∃ fs,findF (atD W 0)=some (kd,fs):=by
    cases hf:findF (atD W 0) with
    | none=>exact .inl (kd0 hf)
    | some p=>obtain ⟨k1,fs⟩:=p; right; rw [kd1 k1 fs hf]; exact ⟨fs,rfl⟩
  refine ⟨u.kind,Cell.lst g rfl,If.beq (fun e=>?_) fun e=>?_⟩
  · have e0:kd=0:=by omega
    have hn:findF (atD W 0)=none:=by
      cases hf:findF (atD W 0) with
      | none=>rfl
      | some p=>obtain ⟨k1,fs⟩:=p; have h1:=kd1 k1 fs hf; have:=formP_lt (findF_some hf); omega
    have ea:askP kd W=askD W:=by unfold askD; rw [hn,e0]
    have rc:=d.rd
    rw [ea] at rc
    exact Cells14.mk (K:=Copy14 b K) g ⟨rfl,StN.all gb60 rfl u.one fun w61 g61 x61 _=>res (Ext.refl _ _) rc g61 x61⟩
  · obtain ⟨fs,hf⟩ : ∃ fs,findF (atD W 0)=some (kd,fs):=by
      rcases fo with h | h
      · omega
      · exact h
    have ea:askD W=bareF fs (askP kd W):=by unfold askD; rw [hf]
    have rc:=d.rd.bare (g:=(atD W 0,fs)) (findF_some hf) rfl
    rw [<- ea] at rc
    refine Cells14.mk (K:=fun c0 c1 c2 c3 c4 c5 c6 c7 c8 c9 c10 c11 c12 c13 w'=>C_ref29_bare c0 c1 c2 c3 c4 c5 c6 c7 c8 c9 c10 c11 c12 c13 w' _) g ?_
    exact rbare_spec fun w62 x62=>⟨rfl,StN.all (get_no gb60 x62) rfl (bareV u).one fun w63 g63 x63 _=>res x62 (rc.ext x62 fun _ _=>id) g63 x63⟩
end
end Go.Proofs.YtimonamjecmlcaaGreatDoor
namespace Go.V
theorem picks_ops(c:CallP):∀(fs:List FId)(d:CallP),(fs.foldl (pickF c) d).ops.length<=d.ops.length+fs.length * c.ops.length
 | [],d=>by simp
 | f::fs,d=>by
  have ih:=picks_ops c fs (pickF c d f)
  have h:(pickF c d f).ops.length<=d.ops.length+c.ops.length:=by
   cases f with
   | ops=>show (d.ops++c.ops).length<=_; rw [List.length_append]; exact Nat.le_refl _
   | way=>show (if c.back then { d with back:=true } else d).ops.length<=_; split <;> exact Nat.le_add_right _ _
   | _=>exact Nat.le_add_right _ _
  rw [List.foldl_cons,List.length_cons,Nat.add_mul,Nat.one_mul]
  omega
theorem candE_ops(W:List Bs):(candE W).call.ops.length<=2000:=by
 have ha:∀ k,(askP k W).ops.length<=200:=fun k=>by
  show (if k=11 then opsD 200 (W.drop 2) else []).length<=200
  split
  .exact opsD_len _ _
  .simp
 unfold candE
 split
 .exact Nat.zero_le _
 split
 .exact Nat.zero_le _
 split
 .exact Nat.zero_le _
 split
 .exact Nat.zero_le _
 split
 .exact Nat.zero_le _
 .show (askD W).ops.length<=2000
  unfold askD
  split
  .rename_i k fs hf
   have h1:=picks_ops (askP k W) fs (callP0 (askP k W).kind)
   have h2:fs.length<=6:=(formP_ok k _ (findF_some hf)).2
   have h3:=Nat.mul_le_mul h2 (ha k)
   have h4:(callP0 (askP k W).kind).ops.length=0:=rfl
   show (fs.foldl (pickF (askP k W)) (callP0 (askP k W).kind)).ops.length<=2000
   omega
  .have:=ha 0; omega
end Go.V
namespace Go.Proofs.YtimonamjecmlcaaGreatDoor
open Go.V
section
variable {w:Wd}
set_option maxHeartbeats 2000000 in
theorem runline_spec{l:Bs}{K:KUn}(hl:l.length<=2000000)(k0:∀ v e w',unE l=some e->EvR (w.heap.size<=·) w'.heap v e->RngC e.call->Ext No w w'->K.at v 0 w')
  (k1:∀ w',unE l=none->Ext No w w'->K.at evV0 5 w'):C_ref29_Unline (stB l) w K:=by
 apply S_ref29_Unline
 refine NewW.mk fun b w1 n1=>?_
 have hb:=n1.at_; have z1:=n1.size
 refine rCut_spec (c:=32) (by omega) fun s w2 o x2=>NewW.mk fun b1 w3 n3=>⟨rfl,StN.all n3.get rfl evV0.one fun w4 g4 x4 _=>?_⟩
 have x4':Ext (·=b1) w3 w4:=x4
 have hb1:=n3.at_; have z2:=x2.size; have z3:=n3.size; have z4:=x4'.size
 have x04:Ext No w w4:=((n1.ext.no x2).no n3.ext).trans x4' fun q hq h=>by omega
 have gb4:w4.heap[b]? = some (.cells evV0.cells.toArray 32 (0,0)):=get_ext (get_no n1.get (x2.no n3.ext)) x4' (by omega)
 have o4:OwnW w4.heap w1.heap.size s (splitB 32 l):=(o.no n3.ext).ext x4' fun q hq h=>by have:=(o.lt hq).2; omega
 have r4:=o4.rd
 have sm:SmW (splitB 32 l):=split_sm (by omega)
 obtain ⟨ce,hce⟩ : ∃ e,e=candE (splitB 32 l):=⟨_,rfl⟩
 have hrng:RngC ce.call:=hce ▸ candE_rng _
 have hops:ce.call.ops.length<=2000:=hce ▸ candE_ops _
 have hun:=unE_cand l hce hrng
 have hne:splitB 32 l≠[]:=splitB_ne 32 l
 generalize hW:splitB 32 l=W at *
 have hat:∀ i,(atD W i).length<=100000000:=fun i=>by
  unfold atD
  rw [List.getD_eq_getElem?_getD]
  cases h:W[i]? with
  | none=>simp
  | some x=>exact sm.2 x (List.mem_of_getElem? h)
 let X:Wd->Prop:=fun w'=>Ext (fun q=>b1<=q) w4 w'
 have xw:∀{w'},X w'->Ext No w w':=fun x=>x04.trans x fun q hq h=>by omega
 let C:EvV->Wd->Prop:=fun u w'=>w'.heap[b1]? = some (.cells u.cells.toArray 32 (0,0))
 have rW:∀{w'},X w'->RdW w'.heap s W:=fun x=>(o4.ext x fun q hq h=>by have:=(o.lt hq).2; omega).rd
 have st0:∀(u':EvV){u:EvV}{w':Wd}{K':Wd->Prop}(j:Nat)(y:Value),X w'->C u w'->j < 19->oneC y=true->u.cells.set j y=u'.cells->(∀ w'',Ext (·=b1) w' w''->X w''->C u' w''->K' w'')->St1 w' (Addr.mk b1 j none) y K':=fun u' {u w' K'} j y x g hj hy hu k'=>by
  refine St1.mk g (by simpa [EvV.cells,CallV.cells] using hj) hy fun w'' h''=>?_
  have g2:=h''.get g
  rw [hu] at g2
  have x2:Ext (·=b1) w' w'':=h''.ext
  exact k' w'' x2 (Ext.trans x x2 fun q hq h=>by omega) g2
 have st:∀(u':EvV){u:EvV}{w':Wd}{K':Wd->Prop}(j:Nat)(y:Value),X w'->C u w'->j < 19->oneC y=true->u.cells.set j y=u'.cells->(∀ w'',Ext (·=b1) w' w''->X w''->C u' w''->K' w'')->St1 w' ((Addr.mk b1 0 none).add j) y K':=fun u' {u w' K'} j y x g hj hy hu k'=>by
  rw [addr_add_none rfl,Nat.zero_add]
  exact st0 u' j y x g hj hy hu k'
 have at_:∀{w':Wd}(i:Nat){K':ByteArray->Wd->Prop},X w'->K' (stB (atD W i)) w'->C_ref29_at s (i:Int) w' K':=fun i K' x k'=>rat_spec (rW x) k'
 have x44:X w4:=Ext.refl _ _
 have gC4:C evV0 w4:=g4
 have nil:∀{h},RdQ (b1 < ·) h ⟨none,0,0⟩ []:=RdQ.nil _ _
 refine ⟨fun w'=>∃ v,X w'/\C v w'/\EvR (b1 < ·) w'.heap v ce,?_,?_⟩
 .have hw0:0 < W.length:=List.length_pos_iff.2 hne
  have hsl:=RdW.len r4
  refine ixW r4 (Int.le_refl _) (by omega) fun bb oo hi _ hc=>⟨_,hc,?_⟩
  have e0:W[(0:Int).toNat]'hi=atD W 0:=by unfold atD; rw [List.getD_eq_getElem?_getD,List.getElem?_eq_getElem hw0]; rfl
  rw [e0]
  unfold candE at hce
  refine eqStr (b:=wfail) (fun e1=>?_) fun e1=>?_
  .rw [if_pos e1] at hce
   refine st0 { evV0 with kind:=2 } 0 _ x44 gC4 (by decide) rfl rfl fun wa _ x g=>at_ 1 x (rnum_spec ?_)
   refine st { evV0 with kind:=2,n:=(numD (atD W 1):Nat) } 15 _ x g (by decide) rfl rfl fun wa _ x g=>⟨_,x,g,?_⟩
   rw [hce]; exact ⟨rfl,CallR.zero _ _ 0,rfl,rfl,nil,nil⟩
  rw [if_neg e1] at hce
  refine eqStr (b:=wcut) (fun e2=>?_) fun e2=>?_
  .rw [if_pos e2] at hce
   refine st0 { evV0 with kind:=3 } 0 _ x44 gC4 (by decide) rfl rfl fun wa _ x g=>at_ 1 x (rnum_spec ?_)
   refine st { evV0 with kind:=3,n:=(numD (atD W 1):Nat) } 15 _ x g (by decide) rfl rfl fun wa _ x g=>⟨_,x,g,?_⟩
   rw [hce]; exact ⟨rfl,CallR.zero _ _ 0,rfl,rfl,nil,nil⟩
  rw [if_neg e2] at hce
  refine eqStr (b:=wcrash) (fun e3=>?_) fun e3=>?_
  .rw [if_pos e3] at hce
   refine st0 { evV0 with kind:=4 } 0 _ x44 gC4 (by decide) rfl rfl fun wa _ x g=>at_ 1 x ?_
   have hm1:=hat 1
   generalize atD W 1=m at *
   have za:=x.size
   refine ⟨fun mm i w'=>∃ (j:Nat) (s5:Sl),i=j/\j<=m.length/\mm=m.length - j/\(0 < j->m≠[45])/\X w'/\wa.heap.size<=w'.heap.size/\C { evV0 with kind:=4,masks:=s5 } w'/\OwnB w'.heap wa.heap.size s5 ((m.take j).map fun c=>UInt8.ofNat (d16 c)),⟨_,0,⟨none,0,0⟩,rfl,Nat.zero_le _,rfl,fun h=>absurd h (by decide),x,Nat.le_refl _,g,Own.nil _ _ _ _⟩,?_⟩
   rintro _ m0 _ w5 ⟨j,s5,rfl,hj,rfl,hm,x5,z5,g5,o5⟩
   have hl5:=OwnB.len o5
   rw [List.length_map,List.length_take,Nat.min_eq_left hj] at hl5
   have fin:(m≠[45]->j=m.length)->(m=[45]->j=0)->∃ v,X w5/\C v w5/\EvR (b1 < ·) w5.heap v ce:=fun h1 h2=>by
    refine ⟨_,x5,g5,?_⟩
    have em:(m.take j).map (fun c=>UInt8.ofNat (d16 c))=maskD m:=by
     unfold maskD
     by_cases h:m=[45]
     .rw [if_pos h,h2 h,List.take_zero]; rfl
     .rw [if_neg h,h1 h,List.take_length]
    rw [em] at o5
    rw [hce]; exact ⟨rfl,CallR.zero _ _ 0,rfl,rfl, .own o5 fun q h _=>by omega,nil⟩
   refine ⟨fun w'=>w'=w5/\j < m.length/\m≠[45],If.dec (fun h=>?_) fun h=>?_,?_⟩
   .rw [stB_size] at h
    refine If.not (eqStr (b:=[45]) (fun e=>?_) fun e=>⟨rfl,by omega,e⟩)
    exact fin (fun h=>absurd e h) fun _=>by
     rcases Nat.eq_zero_or_pos j with h0 | h0
     .exact h0
     .exact absurd e (hm h0)
   .rw [stB_size] at h
    exact fin (fun _=>by omega) fun e=>by
     rcases Nat.eq_zero_or_pos j with h0 | h0
     .exact h0
     .exact absurd e (hm h0)
   rintro _ w5 ⟨rfl,hjl,hm45⟩
   have nb1:∀{q},s5.blk=some q->wa.heap.size<=q/\q < w5.heap.size:=fun h=>o5.lt h
   refine ⟨Ext (fun q=>s5.blk=some q) w5,(Ext.refl _ _).drew,s5,?_,?_⟩
   .rw [addr_add_none rfl]; exact Held.but (Cell.lst g5 rfl) fun h=>by have h1:s5.blk=some b1:=h; have:=nb1 h1; omega
   refine ixS (by omega) (by omega) (rdigit_spec ⟨(Ext.refl _ _).drew,?_⟩)
   have ev:(m[((j:Nat):Int).toNat]'(by omega))=m[j]:=rfl
   rw [ev]
   have tk:=take_snoc hjl
   have d1:=d16_lt m[j]
   generalize m[j]=c at *
   rw [byV_one1 (by omega)]
   refine NewW.mk fun b3 w6 n6=>?_
   have x56:Ext No w5 w6:=n6.ext.drew_left
   have z56:=x56.size
   have o6:=o5.no x56
   have s6:OwnB w6.heap (drewW w5).heap.size ⟨some ⟨b3,0,none⟩,1,1⟩ [UInt8.ofNat (d16 c)]:=Own.new n6 rfl (byV_one _)
   refine ⟨x56.of_no,app_uint8 o6 (by omega) s6.rd.src (by simp only; omega) fun s7 w7 o7 l7 x7 hbl=>?_⟩
   have x7':Ext (fun q=>s5.blk=some q) w6 w7:=x7
   have z7:=x7'.size
   have g7:C _ w7:=get_ext (get_no g5 x56) x7' fun h=>by have:=nb1 h; omega
   have x07:X w7:=by
    refine Ext.trans (Ext.no x5 x56) x7' fun q hq h=>by have:=nb1 h; omega
   refine ⟨x56.of_no.trans x7' fun _ _ h=>h,st { evV0 with kind:=4,masks:=s7 } 17 _ x07 g7 (by decide) rfl rfl fun w8 x8 x08 g8=>Ar.i64 (by omega) ⟨_,by omega,j+1,s7,by omega,by omega,rfl,fun _=>hm45,x08,by have:=x8.size; omega,g8,?_⟩⟩
   rw [<- byV_app] at o7
   rw [tk,List.map_append]
   exact o7.ext x8 fun q hq h=>by have:=(o7.lt hq).1; omega
  rw [if_neg e3] at hce
  refine eqStr (b:=wopen) (fun e4=>?_) fun e4=>?_
  .rw [if_pos e4] at hce
   refine st0 { evV0 with kind:=5 } 0 _ x44 gC4 (by decide) rfl rfl fun wa _ x g=>⟨_,x,g,?_⟩
   rw [hce]; exact ⟨rfl,CallR.zero _ _ 0,rfl,rfl,nil,nil⟩
  rw [if_neg e4] at hce
  refine eqStr (b:=wforeign) (fun e5=>?_) fun e5=>?_
  .rw [if_pos e5] at hce
   refine st0 { evV0 with kind:=6 } 0 _ x44 gC4 (by decide) rfl rfl fun wa _ x g=>at_ 1 x (rnum_spec ?_)
   refine st { evV0 with kind:=6,block:=(numD (atD W 1):Nat) } 16 _ x g (by decide) rfl rfl fun wa _ x g=>at_ 2 x (rnum_spec ?_)
   refine st { evV0 with kind:=6,block:=(numD (atD W 1):Nat),n:=(numD (atD W 2):Nat) } 15 _ x g (by decide) rfl rfl fun wa _ x g=>at_ 3 x (rhex_spec (hat 3) fun s5 wb ob xb=>?_)
   have zx:=Ext.size x
   refine st { evV0 with kind:=6,block:=(numD (atD W 1):Nat),n:=(numD (atD W 2):Nat),bytes:=s5 } 18 _ (Ext.no x xb) (get_no g xb) (by decide) rfl rfl fun wc xc x g=>⟨_,x,g,?_⟩
   have oc:=ob.ext xc fun q hq h=>by have:=(ob.lt hq).1; omega
   rw [hce]; exact ⟨rfl,CallR.zero _ _ 0,rfl,rfl,nil, .own oc fun q h _=>by omega⟩
  rw [if_neg e5] at hce
  refine st0 { evV0 with kind:=1 } 0 _ x44 gC4 (by decide) rfl rfl fun wa _ x g=>asked_spec (rW x) hne sm fun u wb ru xb=>⟨rfl,?_⟩
  have zx:=Ext.size x
  have gb:C { evV0 with kind:=1 } wb:=get_no g xb
  rw [addr_add_none rfl,Nat.zero_add]
  refine StN.mk (o:=1) gb (by simp [EvV.cells,CallV.cells]) u.one fun wc hc=>?_
  have xc':Ext (·=b1) wb wc:=hc.ext
  have gc:C { evV0 with kind:=1,call:=u } wc:=hc.get gb
  refine ⟨{ evV0 with kind:=1,call:=u },Ext.trans (Ext.no x xb) xc' fun q hq h=>by omega,gc,?_⟩
  rw [hce]; exact ⟨rfl,(ru.ext xc' fun q hq h=>by omega).mono fun q h=>by omega,rfl,rfl,nil,nil⟩
 rintro _ w5 ⟨v,x5,g5,r5⟩
 have x05:=xw x5
 have z5:=Ext.size x5
 have gb5:w5.heap[b]? = some (.cells evV0.cells.toArray 32 (0,0)):=get_ext gb4 x5 (by omega)
 have bad:∀{w'},Ext No w5 w'->unE l=none->List.length evV0.cells=19/\StN w' (Addr.mk b 0 none) evV0.cells fun w'=>CellsE w' b fun c c_1 c_2 c_3 c_4 c_5 c_6 c_7 c_8 c_9 c_10 c_11 c_12 c_13 c_14 c_15 c_16 c_17 c_18 w'=>K c c_1 c_2 c_3 c_4 c_5 c_6 c_7 c_8 c_9 c_10 c_11 c_12 c_13 c_14 c_15 c_16 c_17 c_18 5 w':=fun {w'} x hu=>by
  refine ⟨rfl,StN.all (get_no gb5 x) rfl evV0.one fun w'' g x2 _=>CellsE.mk g (k1 w'' hu ?_)⟩
  have x2':Ext (·=b) w' w'':=x2
  exact (x05.no x).trans x2' fun q hq h=>by omega
 refine CellsE.mk (v:=v) (K:=fun c c_1 c_2 c_3 c_4 c_5 c_6 c_7 c_8 c_9 c_10 c_11 c_12 c_13 c_14 c_15 c_16 c_17 c_18 w35=>C_ref29_May c c_1 c_2 c_3 c_4 c_5 c_6 c_7 c_8 c_9 c_10 c_11 c_12 c_13 c_14 c_15 c_16 c_17 c_18 w35 _) g5 ?_
 refine rMay_spec r5 (by omega) fun r w6 hm x6=>If.not (If.cases (fun t=>?_) fun t=>bad x6 (hun.2 fun h=>by rw [hm.2 h.1] at t; cases t))
 have may:=hm.1 t
 have g6:=get_no g5 x6
 refine CellsE.mk (v:=v) (K:=fun c c_1 c_2 c_3 c_4 c_5 c_6 c_7 c_8 c_9 c_10 c_11 c_12 c_13 c_14 c_15 c_16 c_17 c_18 w36=>C_ref29_Line c c_1 c_2 c_3 c_4 c_5 c_6 c_7 c_8 c_9 c_10 c_11 c_12 c_13 c_14 c_15 c_16 c_17 c_18 w36 _) g6 ?_
 refine rLine_spec (r5.no x6) may hrng fun w7 x7=>If.not (eqStr (fun e=>?_) fun e=>bad (x6.no x7) (hun.2 fun h=>e h.2))
 have g7:=get_no g6 x7
 refine ⟨v.kind,Cell.lst g7 rfl,v.call.kind,Cell.lst g7 rfl,v.call.tenant,Cell.lst g7 rfl,v.call.secret,Cell.lst g7 rfl,v.call.quota,Cell.lst g7 rfl,v.call.n,Cell.lst g7 rfl,v.call.handle,Cell.lst g7 rfl,v.call.other,Cell.lst g7 rfl,v.call.snap,Cell.lst g7 rfl,v.call.rights,Cell.lst g7 rfl,v.call.ops,Cell.lst g7 rfl,v.call.key,Cell.lst g7 rfl,v.call.frm,Cell.lst g7 rfl,v.call.upto,Cell.lst g7 rfl,v.call.back,Cell.lst g7 rfl,v.n,Cell.lst g7 rfl,v.block,Cell.lst g7 rfl,v.masks,Cell.lst g7 rfl,v.bytes,Cell.lst g7 rfl,rfl,?_⟩
 refine StN.all (get_no (get_no gb5 x6) x7) rfl v.one fun w8 g8 x8 _=>?_
 have x8':Ext (·=b) w7 w8:=x8
 have x78:Ext (·=b) w5 w8:=((x6.no x7).of_no (S:=(·=b))).trans x8' fun _ _ h=>h
 refine CellsE.mk (v:=v) (K:=fun c c_1 c_2 c_3 c_4 c_5 c_6 c_7 c_8 c_9 c_10 c_11 c_12 c_13 c_14 c_15 c_16 c_17 c_18 w'=>K c c_1 c_2 c_3 c_4 c_5 c_6 c_7 c_8 c_9 c_10 c_11 c_12 c_13 c_14 c_15 c_16 c_17 c_18 0 w') g8 ?_
 exact k0 v ce w8 (hun.1 ⟨may,e⟩) ((r5.ext x78 fun q hq h=>by have h1:b1 < q:=hq; omega).mono fun q hq=>by have h1:b1 < q:=hq; omega) hrng (x05.trans x78 fun q hq h=>by omega)
end
end Go.Proofs.YtimonamjecmlcaaGreatDoor
