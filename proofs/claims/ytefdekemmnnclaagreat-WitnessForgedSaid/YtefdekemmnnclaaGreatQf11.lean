/- Texts for LWitnessForged, part 11. -/
import Derived.Test.YtefdekemmnnclaaGreatQf10
set_option maxRecDepth 100000
namespace Go.Proofs.YtefdekemmnnclaaGreat
open Go.V
theorem Hs{key:Sl}{l0 l1:Int}{l2 l3:Int}{l4 l5:Int}{payload:Sl}{w:Wd}{K:Sl->Int->Pw}(h:an w (.cells (lN l0 l1 l2 l3 l4 l5).toArray 31) fun a M=>∃h:Pw,(me key M fun F e=>If (!F) (K ⟨none,0,0⟩ 2 e) (∃C:Int,Cell e ((A0 a).add 1) (.int .u8 C)/\jJ C e fun G f=>If (!G) (K ⟨none,0,0⟩ 2 f) (If (((payload.len:Int)) != 224) (K ⟨none,0,0⟩ 2 f) (h f))))/\∀(_:Env)(g:Wd),h g->∃b:Pw,b (aa g)/\oJ (af b) (A0 a) fun i j s t u v=>oJ (af b) (A0 a) fun x y z A k l=>lO i j s t u v (aa g) fun H D=>b D/\oU x y z A k l D fun I E=>b E/\rR key H I payload E fun d B c=>b c/\If (B != 0) (K ⟨none,0,0⟩ B c) (oJ (Cell c) (A0 a) fun m n o p q r=>jK m n o p q r c fun J N=>aU pz 25 25 J d.u (fun L O=>K L 0 O) N)):rM key l0 l1 l2 l3 l4 l5 payload w K:=aK PK (qz (.join [] 33552576 (qz (.cond (qz n0) n0)) (.seq (.draw (aY [0,1,3,5] (.one 2 (.one 4 (.one 6 (aY [7,8,9,10,11] .fin)))))) (.seq (qz (.cond (qz n0) n0)) (qz (qz n0)))))) Tryz.func9 h
def tQ(keys aT:Sl)(n:Int)(block key:Sl)(l0 l1:Int)(l2 l3:Int)(l4 l5:Int)(w:Wd)(K:Bool->Pw):Prop:=an w (.cells (lN l0 l1 l2 l3 l4 l5).toArray 31) fun b c=>∃o:Pw,(If (decide (((keys.len:Int)) > 20)) (cH  c fun Y c0=>K Y c0) (If (decide (((aT.len:Int)) > 20)) (cH  c fun a3 c2=>K a3 c2) (If (decide (((block.len:Int)) > 1000)) (cH  c fun a8 c3=>K a8 c3) (If (decide (((key.len:Int)) > 100)) (cH  c fun a9 c4=>K a9 c4) (o c)))))/\∀(_:Env)(S:Wd),o S->∃h:Nat->Int->Pw,(∃W,h W 0 S)/\∀(_:Env)(D:Nat)(e:Int)(d:Wd),h D e d->If (decide (e < ((keys.len:Int)))) (Ix keys.a keys.len e 1 fun T=>∃f:Sl,Cell d T f.u/\If (decide (((f.len:Int)) > 100)) (cH  d fun b0 c5=>K b0 c5) (Ar .i64 (e+1) fun c7=>∃E,E < D/\h E c7 d)) (f_  d fun i c6=>∃m:Pw,(de none keys aT n block c6 fun b1 J=>If b1 (K false J) (de i keys aT n block J fun b2 b7=>nR keys aT n block b7 fun b3 L=>If (!(b2 == b3)) (K false L) (m L)))/\∀(_:Env)(j:Wd),m j->∃a:Pw,a (aa j)/\oJ (af a) (A0 b) fun q r u v x y=>tE (aa j) 5 [.int .u8 0] 1 224 224 fun b5 M=>a M/\dI i key q r u v x y b5 M fun Z a1 g=>a g/\If (a1 != 0) (cH  g fun b4 b8=>K b4 b8) (∃a:Pw,a (aa g)/\oJ (af a) (A0 b) fun z A B C s t=>tE (aa g) 5 [.int .u8 0] 1 224 224 fun b6 N=>a N/\rM key z A B C s t b6 N fun a0 a2 O=>a O/\f_  O fun a4 b9=>an b9 (.cells [key.u].toArray 25) fun p k=>If (a2 != 0) (K false k) (∃F:Int,Cell k (A0 b) (.int .u32 F)/\an k (.cells [.int .u32 F].toArray 24) fun U P=>∃G:Int,Cell P ((A0 b).add 3) (.int .u32 G)/\de i ⟨some (A0 p),1,1⟩ ⟨some (A0 U),1,1⟩ G Z P fun a5 l=>If a5 (K false l) (∃H:Int,Cell l (A0 b) (.int .u32 H)/\an l (.cells [.int .u32 H].toArray 24) fun V Q=>∃I:Int,Cell Q ((A0 b).add 3) (.int .u32 I)/\de a4 ⟨some (A0 p),1,1⟩ ⟨some (A0 V),1,1⟩ I a0 Q fun a6 R=>If (!a6) (K false R) (cH  R fun a7 c1=>K a7 c1)))))
def tR:sV:=(qz (.join [] 1099509534720 (qz (.cond (qz n0) n0)) (.seq (qz (.block (.loop [(13,.int .i64)] 9006099743125504 (.seq (qz (.cond n0 n0)) (.seq (.block (qz (.cond (qz n0) n0))) n0))))) (qz (.join [] 9444714951340780949504 (qz (.cond (qz n0) n0)) (.seq (.draw (aY [0,1,2] (.one 3 (.one 4 (aY [5,6,7,8,9] .fin))))) (.seq (qz (.cond (qz n0) n0)) (.seq (.draw (aY [0,1] (.one 2 (.one 3 (aY [4,5,6,7,8] .fin))))) (qz (qz (.seq (qz (.cond (qz n0) n0)) (qz n0))))))))))))
theorem tS{keys aT:Sl}{n:Int}{block key:Sl}{l0 l1:Int}{l2 l3:Int}{l4 l5:Int}{w:Wd}{K:Bool->Pw}(h:tQ keys aT n block key l0 l1 l2 l3 l4 l5 w K):gg keys aT n block key l0 l1 l2 l3 l4 l5 w K:=
 Xn PK tR [.slice keys.a keys.len keys.cap,.slice aT.a aT.len aT.cap,.int .u32 n,.slice block.a block.len block.cap,.slice key.a key.len key.cap,.agg ([.int .u32 l0,.int .u8 l1,.int .u8 l2,.int .u32 l3,.int .u64 l4,.int .u16 l5]).toArray] [.one (.bool)] K w Tryz.func3 h
theorem zh{p:Option Addr}{az kind:Int}{level r0:Int}{r1 r2:Int}{w:Wd}{K:Sl->Int->Pw}(h:an w (.cells (dZ r0 r1 r2).toArray 29) fun g l2=>bS p l2 fun g3 v=>If (g3 != 0) (K ⟨none,0,0⟩ g3 v) (∃b4:Pw,(If (decide (kind < 1)) (K ⟨none,0,0⟩ 2 v) (If (decide (kind > 3)) (K ⟨none,0,0⟩ 2 v) (∃g8:Int,Cell v (A0 g) (.int .u32 g8)/\cK p g8 v fun k7 i8=>If (!k7) (K ⟨none,0,0⟩ 2 i8) (b4 i8))))/\∀(_:Env)(x:Wd),b4 x->rC (Cell x) (A0 g) fun C D J=>an x (.cells (lN 0 0 0 0 0 0).toArray 31) fun b l5=>bG l5 (A0 b) 6 (lN az kind level C D J) fun b2=>∃a:Pw,a (aa b2)/\Nn p fun j0=>∃a5:Option Nat,af a (j0.add 4) (.map a5)/\∃a6:Int,af a (A0 g) (.int .u32 a6)/\(∃S:Int,∃U:Int,∃W:Int,∃Z:Int,∃a1:Int,∃a3:Int,∃h:Sl,∃g6:Bool,∃b3,Sem.run pz (Instr.lookup 283 (.map a5) (.int .u32 a6) true) ((aa b2)) = .ok (.tuple #[.agg ((Dl S U W Z a1 a3 h)).toArray,.bool g6]) b3/\a b3/\an b3 (.cells (Xp 0 0 0 0 0 0).toArray 478) fun c i9=>a i9/\bG i9 (A0 c) 7 (Dl S U W Z a1 a3 h) fun B=>a B/\∃n:Pw,(If (!g6) (∃h6:Int,Cell B (A0 g) (.int .u32 h6)/\mj p h6 B fun k8 a7=>If k8 (K ⟨none,0,0⟩ 210 a7) (∃a:Pw,a (aa a7)/\Nn p fun j1=>∃h7:Option Addr,af a j1 (.pointer h7)/\∃h8:Int,af a (A0 g) (.int .u32 h8)/\Ar .i64 h8 fun l6=>dh h7 l6 (aa a7) fun j9 g4 y=>a y/\If (g4 != 0) (K ⟨none,0,0⟩ g4 y) (∃a:Pw,a (aa y)/\Nn p fun j2=>∃h9:Option Addr,af a (j2.add 1) (.pointer h9)/\∃i0:Int,af a ((A0 g).add 2) (.int .u16 i0)/\cT h9 az i0 (aa y) fun k0 k3 j=>a j/\If (k3 != 0) (K ⟨none,0,0⟩ 210 j) (oJ (Cell j) (A0 b) fun c9 e0 e5 f5 g1 g2=>mc k0 c9 e0 e5 f5 g1 g2 j9 j fun r k4 l=>If (k4 != 0) (K ⟨none,0,0⟩ 210 l) (oJ (Cell l) (A0 b) fun R E F G H I=>bG l (A0 c) 7 (Dl R E F G H I r) fun i3=>∃a:Pw,a (aa i3)/\Nn p fun j3=>∃i1:Option Nat,af a (j3.add 4) (.map i1)/\∃i2:Int,af a (A0 g) (.int .u32 i2)/\Xs (af a) (A0 c) fun b5 b6 b7 b8 b9 c0 o=>∃a8,Sem.run pz (Instr.mapUpdate 283 (.map i1) (.int .u32 i2) (.agg ((Dl b5 b6 b7 b8 b9 c0 o)).toArray)) ((aa i3)) = .ok () a8/\a a8/\n a8))))) (n B))/\∀(_:Env)(e:Wd),n e->oJ (Cell e) (A0 c) fun c1 c2 c3 c4 c5 c6=>oJ (Cell e) (A0 b) fun c7 c8 d0 d1 d2 d3=>If (!((c1 == c7) && ((c2 == c8) && ((c3 == d0) && (((c4 == d1) && ((c5 == d2) && ((c6 == d3) && (true)))) && (true)))))) (K ⟨none,0,0⟩ 210 e) (an e (.cells [].toArray 5) fun j7 i4=>∃t:Sl,Cell i4 ((A0 c).add 6) t.u/\aU pz 25 25 ⟨some (A0 j7),0,0⟩ t.u (fun l0 l3=>K l0 0 l3) i4))/\(an (aa b2) (.cells (Xp 0 0 0 0 0 0).toArray 478) fun d i5=>a i5/\∃T:Int,∃V:Int,∃Y:Int,∃a0:Int,∃a2:Int,∃a4:Int,∃i:Sl,∃g7:Bool,∃a9,Sem.run pz (Instr.lookup 283 (.map a5) (.int .u32 a6) true) i5 = .ok (.tuple #[.agg ((Dl T V Y a0 a2 a4 i)).toArray,.bool g7]) a9/\a a9/\bG a9 (A0 d) 7 (Dl T V Y a0 a2 a4 i) fun z=>a z/\∃n:Pw,(If (!g7) (∃g9:Int,Cell z (A0 g) (.int .u32 g9)/\mj p g9 z fun k9 b0=>If k9 (K ⟨none,0,0⟩ 210 b0) (∃a:Pw,a (aa b0)/\Nn p fun j4=>∃h0:Option Addr,af a j4 (.pointer h0)/\∃h1:Int,af a (A0 g) (.int .u32 h1)/\Ar .i64 h1 fun l7=>dh h0 l7 (aa b0) fun k1 g5 A=>a A/\If (g5 != 0) (K ⟨none,0,0⟩ g5 A) (∃a:Pw,a (aa A)/\Nn p fun j5=>∃h2:Option Addr,af a (j5.add 1) (.pointer h2)/\∃h3:Int,af a ((A0 g).add 2) (.int .u16 h3)/\cT h2 az h3 (aa A) fun k2 k5 k=>a k/\If (k5 != 0) (K ⟨none,0,0⟩ 210 k) (oJ (Cell k) (A0 b) fun d4 d5 d6 d7 d8 d9=>mc k2 d4 d5 d6 d7 d8 d9 k1 k fun s k6 m=>If (k6 != 0) (K ⟨none,0,0⟩ 210 m) (oJ (Cell m) (A0 b) fun L M N O P Q=>bG m (A0 d) 7 (Dl L M N O P Q s) fun i6=>∃a:Pw,a (aa i6)/\Nn p fun j6=>∃h4:Option Nat,af a (j6.add 4) (.map h4)/\∃h5:Int,af a (A0 g) (.int .u32 h5)/\Xs (af a) (A0 d) fun e1 e2 e3 e4 e6 e7 q=>∃b1,Sem.run pz (Instr.mapUpdate 283 (.map h4) (.int .u32 h5) (.agg ((Dl e1 e2 e3 e4 e6 e7 q)).toArray)) ((aa i6)) = .ok () b1/\a b1/\n b1))))) (n z))/\∀(_:Env)(f:Wd),n f->oJ (Cell f) (A0 d) fun e8 e9 f0 f1 f2 f3=>oJ (Cell f) (A0 b) fun f4 f6 f7 f8 f9 g0=>If (!((e8 == f4) && ((e9 == f6) && ((f0 == f7) && (((f1 == f8) && ((f2 == f9) && ((f3 == g0) && (true)))) && (true)))))) (K ⟨none,0,0⟩ 210 f) (an f (.cells [].toArray 5) fun j8 i7=>∃u:Sl,Cell i7 ((A0 d).add 6) u.u/\aU pz 25 25 ⟨some (A0 j8),0,0⟩ u.u (fun l1 l4=>K l1 0 l4) i7)))):j_ p az kind level r0 r1 r2 w K:=aK PK (qz (.seq (qz (qz (.cond (qz n0) n0))) (.join [] 274844355584 (qz (.cond (qz n0) n0)) (qz (.seq (.draw (aY [0,1,2,3,4,5] (.two 6 (aY [7,8,9] (.one 10 (.one 11 (.take 12 .fin)))) 10 (.one 6 (aY [7,8,9] (.one 11 (.take 12 .fin))))))) (.join [] 40564819207303331840695248817152 (qz (.cond (.seq (qz (.cond (qz n0) n0)) (.seq (.draw (aY [0,1,2,3,4,5,6] (.one 7 (aY [8,9,10,11,12] .fin)))) (.seq (qz (.cond (qz n0) n0)) (.seq (.draw (aY [0,1,2,3,4,5,6] (.one 7 (aY [8,9,10,11,12] .fin)))) (.seq (qz (.cond (qz n0) n0)) (qz (.seq (qz (.cond (qz n0) n0)) (qz (.draw (aY [0,1,2,3,4,5,6] (.one 7 .fin))))))))))) n0)) (.seq (qz (.cond (qz n0) n0)) (qz n0)))))))) Tryz.func500 h
theorem zi {p : Option Addr} {az : Int} {kind : Int} {level : Int} {r0 : Int} {r1 : Int} {r2 : Int} {w : Wd} {K : Sl → Int → Wd → Prop} {X : PX} (h : j_ p az kind level r0 r1 r2 w K) : Gk pz (.iface 83 (.pointer p)) "Get" [.int .u32 az,.int .u8 kind,.int .u8 level,.agg ([.int .u32 r0,.int .u64 r1,.int .u16 r2]).toArray] [.one (.sl),.one (.int .i64)] K X w:=
  mkI (f:=500) (ars:=#[.pointer p,.int .u32 az,.int .u8 kind,.int .u8 level,.agg ([.int .u32 r0,.int .u64 r1,.int .u16 r2]).toArray]) (by kernel_rfl) (by kernel_rfl) h
theorem xH{r:Option Addr}{az:Int}{w:Wd}{K:Int->Int->Pw}(h:If (Option.isNone r) (K 0 1 w) (df r az w fun a b=>If (((a.len:Int)) == 0) (K 0 7 b) (Ar .i64 (((a.len:Int)) - 1) fun e=>Ix a.a a.len e 1 fun d=>∃c:Int,Cell b d (.int .u16 c)/\K c 0 b))):jh r az w K:=aK PK (qz (.seq (qz (.cond (qz n0) n0)) (qz (.seq (qz (.cond (qz n0) n0)) (qz n0))))) Tryz.func503 h
theorem JJ{l:Sl}{w:Wd}{K:Int->Sl->Int->Pw}(h:fT l w fun p a=>If (!p) (K 0 ⟨none,0,0⟩ 2 a) (If (((l.len:Int)) == 0) (K 0 ⟨none,0,0⟩ 9 a) (Ix l.a l.len 0 2 fun i=>Xr (Cell a) i fun d e=>an a (.cells (ET 0 0).toArray 290) fun b s=>bG s (A0 b) 2 (ET d e) fun h=>∃j:Int,Cell h (A0 b) (.int .u32 j)/\Ar .u32 (j+1) fun u=>∃k:Int,Cell h ((A0 b).add 1) (.int .u32 k)/\pq u k h fun f t=>aU pz 282 282 ⟨none,0,0⟩ f.u (fun q n=>∃c:Pw,c (aa n)/\∃m:Int,af c (A0 b) (.int .u32 m)/\Cut l 1 (((l.len:Nat):Int)) (((l.cap:Nat):Int)) 2 fun g=>aU pz 282 282 q g.u (fun r o=>c o/\K m r 0 o) (aa n)) t))):uM l w K:=aK PK (qz (.seq (qz (.cond (qz n0) n0)) (.seq (qz (.cond (qz n0) n0)) (qz (qz (.seq (.draw (aY [0,1,2,3,4] (.one 5 (aY [6,7,8] .fin)))) n0)))))) Tryz.func504 h
theorem zj{p:Option Addr}{az kind level:Int}{payload:Sl}{w:Wd}{K:Int->Int->Int->Int->Pw}(h:an w (.cells (dZ 0 0 0).toArray 29) fun a c5=>bS p c5 fun a4 b6=>If (a4 != 0) (bG b6 (A0 a) 3 (dZ 0 0 0) fun l=>rC (Cell l) (A0 a) fun B C O=>K B C O a4 l) (∃A:Pw,(ey p b6 fun c4 e=>If (!c4) (bG e (A0 a) 3 (dZ 0 0 0) fun m=>rC (Cell m) (A0 a) fun W Y Z=>K W Y Z 2 m) (If (decide (kind < 1)) (bG e (A0 a) 3 (dZ 0 0 0) fun n=>rC (Cell n) (A0 a) fun a0 a1 a2=>K a0 a1 a2 2 n) (If (decide (kind > 3)) (bG e (A0 a) 3 (dZ 0 0 0) fun o=>rC (Cell o) (A0 a) fun a3 D E=>K a3 D E 2 o) (If (((payload.len:Int)) != 224) (bG e (A0 a) 3 (dZ 0 0 0) fun q=>rC (Cell q) (A0 a) fun F G H=>K F G H 2 q) (A e)))))/\∀(_:Env)(z:Wd),A z->Nn p fun b7=>∃a8:Option Addr,Cell z (b7.add 1) (.pointer a8)/\jh a8 az z fun a5 a6 y=>If (a6 != 0) (bG y (A0 a) 3 (dZ 0 0 0) fun h=>rC (Cell h) (A0 a) fun I J L=>K I J L a6 h) (Nn p fun b8=>∃g:Sl,Cell y (b8.add 3) g.u/\uM g y fun f u a7 b1=>If (a7 != 0) (bG b1 (A0 a) 3 (dZ 0 0 0) fun i=>rC (Cell i) (A0 a) fun M N P=>K M N P a7 i) (Nn p fun b9=>aH b1 (b9.add 3) u.u fun b2=>Nn p fun c0=>∃x:Int,Cell b2 (c0.add 9) (.int .u64 x)/\an b2 (.cells (dZ 0 0 0).toArray 29) fun c c6=>bG c6 (A0 c) 3 (dZ f x a5) fun b3=>∃b:Pw,b (aa b3)/\Nn p fun c1=>∃a9:Option Nat,af b (c1.add 4) (.map a9)/\rC (af b) (A0 c) fun Q R S=>an (aa b3) (.cells [].toArray 5) fun c3 b4=>b b4/\aU pz 25 25 ⟨some (A0 c3),0,0⟩ payload.u (fun v b5=>b b5/\∃j,Sem.run pz (Instr.mapUpdate 283 (.map a9) (.int .u32 f) (.agg ((Dl az kind level Q R S v)).toArray)) b5 = .ok () j/\b j/\Nn p fun c2=>∃b0:Option Nat,Cell j (c2.add 6) (.map b0)/\∃d,Sem.run pz (Instr.mapUpdate 284 (.map b0) (.int .u32 f) (.bool true)) j = .ok () d/\rC (Cell d) (A0 c) fun r s t=>bG d (A0 a) 3 (dZ r s t) fun k=>rC (Cell k) (A0 a) fun T U V=>K T U V 0 k) b4)))):ka p az kind level payload w K:=aK PK (qz (.seq (qz (qz (.cond (qz n0) n0))) (.join [] 2199006480384 (qz (.cond (qz n0) n0)) (qz (.seq (qz (.cond (qz n0) n0)) (qz (.seq (qz (.cond (qz n0) n0)) (qz (qz (.seq (.draw (aY [0,1,2,3,4,5,6,7,8,9,11] (.one 10 (.one 12 (.take 13 (.one 14 .fin)))))) (qz (qz n0)))))))))))) Tryz.func501 h
theorem zk {p : Option Addr} {az : Int} {kind : Int} {level : Int} {payload : Sl} {w : Wd} {K : Int → Int → Int → Int → Wd → Prop} {X : PX} (h : ka p az kind level payload w K) : Gk pz (.iface 83 (.pointer p)) "Put" [.int .u32 az,.int .u8 kind,.int .u8 level,.slice payload.a payload.len payload.cap] [.agg [.one (.int .u32),.one (.int .u64),.one (.int .u16)],.one (.int .i64)] K X w:=
  mkI (f:=501) (ars:=#[.pointer p,.int .u32 az,.int .u8 kind,.int .u8 level,.slice payload.a payload.len payload.cap]) (by kernel_rfl) (by kernel_rfl) h
section
variable {w:Wd}
theorem Bu{a:Int}{K:Int->Pw}(ha:By a)(k:K ((Da a.toNat:Nat):Int) w):iP a w K:=by
 apply Cd
 have e:(a * 2 ^ min (Int.toNat 1) (IntKind.bits .u8) % 256).toNat=2 * a.toNat % 256:=by
  show(a * 2 ^ 1 % 256).toNat=_;omega
 refine Nm.as (TD ha) (If.bne (fun h=>⟨by decide,Ar.KS (Nm.as (br (By.mod _) ⟨by decide,by decide⟩) ?_)⟩) fun h=>⟨by decide,Ar.KS ?_⟩)
 .have h1:a.toNat / 128 % 2=1:=by omega
  have e2:xr (a * 2 ^ min (Int.toNat 1) (IntKind.bits .u8) % 256) 27=((Da a.toNat:Nat):Int):=by unfold xr Da;rw[if_pos h1,e];rfl
  rw[e2];exact k
 .have h1:¬ a.toNat / 128 % 2=1:=by omega
  have e2:a * 2 ^ min (Int.toNat 1) (IntKind.bits .u8) % 256=((Da a.toNat:Nat):Int):=by unfold Da;rw[if_neg h1,<- e];have:=By.mod (a * 2 ^ min (Int.toNat 1) (IntKind.bits .u8));omega
  rw[e2];exact k
theorem DW{a b:Int}{K:Int->Pw}(ha:By a)(hb:By b)(k:K (gm a b) w):jY a b w K:=by
 apply GP;refine⟨fun m a' b' c w'=>b'=(m:Int)/\w'=w/\By a'/\By c/\m<=255/\∃i,m < 2 ^ i/\TB i a'.toNat m c.toNat=TB 8 a.toNat b.toNat 0,⟨b.toNat,by omega,rfl,ha,⟨by omega,by omega⟩,by omega,8,by omega,rfl⟩,?_⟩;rintro _ m a1 b1 c w1 ⟨rfl,rfl,h1,hc,QU,i,hm,e⟩;refine If.bne (fun h=>?_) fun h=>?_
 .have TW:m≠0:=by omega
  obtain⟨j,rfl⟩ : ∃j,i=j+1:=by cases i with
   | zero=>simp at hm;omega
   | succ j=>exact⟨j,rfl⟩
  rw[TB,if_neg TW]at e;have hj:m / 2 < 2 ^ j:=by rw[Nat.pow_succ]at hm;omega
  have hd:((Da a1.toNat:Nat):Int).toNat=Da a1.toNat:=Int.toNat_natCast _;have hdl:Da a1.toNat < 256:=Nj;refine Nm.as (FK (by omega)) (If.bne (fun h2=>?_) fun h2=>?_)
  .rw[if_pos (by omega)]at e;exact Nm.as (br hc h1) (Bu h1 ⟨by decide,Nm.as (C9 (by decide)) ⟨m / 2,by omega,rfl,rfl,by omega,kP hc h1,by omega,j,hj,by rw[hd,C_];exact e⟩⟩)
  .rw[if_neg (by omega)]at e;exact Bu h1 ⟨by decide,Nm.as (C9 (by decide)) ⟨m / 2,by omega,rfl,rfl,by omega,hc,by omega,j,hj,by rw[hd];exact e⟩⟩
 .have TW:m=0:=by omega
  subst TW;rw[Qy]at e;have:gm a b=c:=by unfold gm Xc;rw[<- e];omega
  rw[<- this];exact k
theorem DX{a n:Int}{K:Int->Pw}(ha:By a)(hn:By n)(k:K (pw a n) w):jX a n w K:=by
 apply DA;refine⟨fun m a' n' c w'=>n'=(m:Int)/\w'=w/\By a'/\By c/\m<=255/\∃i,m < 2 ^ i/\PQ i a'.toNat m c.toNat=PQ 8 a.toNat n.toNat 1,⟨n.toNat,by omega,rfl,ha,⟨by omega,by omega⟩,by omega,8,by omega,rfl⟩,?_⟩;rintro _ m a1 n1 c w1 ⟨rfl,rfl,h1,hc,QU,i,hm,e⟩;refine If.dec (fun h=>?_) fun h=>?_
 .have TW:m≠0:=by omega
  obtain⟨j,rfl⟩ : ∃j,i=j+1:=by cases i with
   | zero=>simp at hm;omega
   | succ j=>exact⟨j,rfl⟩
  rw[PQ,if_neg TW]at e;have hj:m / 2 < 2 ^ j:=by rw[Nat.pow_succ]at hm;omega
  refine⟨fun c' w'=>w'=w1/\c'=(if m % 2=1 then gm c a1 else c),Nm.as (Ll (by omega)) (If.bne (fun h2=>DW hc h1 ⟨rfl,by rw[if_pos (by omega)]⟩) fun h2=>⟨rfl,by rw[if_neg (by omega)]⟩),?_⟩;rintro _ c2 w2 ⟨rfl,rfl⟩;refine DW h1 h1 ⟨by decide,Nm.as (C9 (by decide)) ⟨m / 2,by omega,rfl,rfl,IL _ h1,?_,by omega,j,hj,?_⟩⟩
  .split
   .exact IL _ hc
   .exact hc
  .rw[<- e];have e1:(gm a1 a1).toNat=Xc a1.toNat a1.toNat:=Int.toNat_natCast _;rw[e1];split
   .rfl
   .rfl
 .have TW:m=0:=by omega
  subst TW;rw[Qz]at e;have:pw a n=c:=by unfold pw;rw[<- e];omega
  rw[<- this];exact k
theorem QV{a:Int}{K:Int->Pw}(ha:By a)(k:K (pw a 254) w):ss a w K:=by
 apply GS;exact DX ha ⟨by decide,by decide⟩ k
theorem sO{a:Int}{n:Nat}{K:Int->Pw}(ha:By a)(hn:n<=8)(k:K ((Am a.toNat n:Nat):Int) (aa w)):fx a (n:Int) w K:=by
 apply DB;refine⟨fun _=>True,trivial,by omega,Ar.KS (Ar.i64 (by omega) ⟨by omega,Nm.mk (Nm.as ?_ k)⟩)⟩;rw[<- Xe ha n,fdiv_pow,show min (Int.toNat (n:Int)) (IntKind.bits .u8)=n by show min _ 8=n;omega,show min (Int.toNat (8 - (n:Int))) (IntKind.bits .u8)=8 - n by show min _ 8=_;omega]
theorem ke{a:Int}{K:Int->Pw}(ha:By a)(k:∀w',Ext No w w'->K (sb a) w'):cN a w K:=by
 apply GU;refine QV ha ?_;have hb:By (pw a 254):=Nk _ ha;have e:sb a=xr (xr (xr (xr (xr (pw a 254) ((Am (pw a 254).toNat 1:Nat):Int)) ((Am (pw a 254).toNat 2:Nat):Int)) ((Am (pw a 254).toNat 3:Nat):Int)) ((Am (pw a 254).toNat 4:Nat):Int)) 99:=rfl;rw[e]at k;generalize pw a 254=b at *;have hr:∀n,By ((Am b.toNat n:Nat):Int):=fun n=>by have:=vo (b:=b.toNat) (n:=n) (by omega);constructor <;> omega
 refine sO (n:=1) hb (by decide) (Nm.as (br hb (hr 1)) (sO (n:=2) hb (by decide) (Nm.as (br (kP hb (hr 1)) (hr 2)) (sO (n:=3) hb (by decide) (Nm.as (br (kP (kP hb (hr 1)) (hr 2)) (hr 3)) (sO (n:=4) hb (by decide) ?_))))));refine Nm.as (br (kP (kP (kP hb (hr 1)) (hr 2)) (hr 3)) (hr 4)) (Nm.as (br (kP (kP (kP (kP hb (hr 1)) (hr 2)) (hr 3)) (hr 4)) ⟨by decide,by decide⟩) (k _ ?_));exact(Ext.refl _ _).drew.drew.drew.drew
end
end Go.Proofs.YtefdekemmnnclaaGreat
namespace Go.V
theorem Ext.out{w w1 w2:Wd}{b:Nat}(h:Ext No w w1)(k:Ext (·=b) w1 w2)(hb:w.heap.size<=b):Ext No w w2:=h.trans k fun i hi e=>by subst e;omega
theorem B8.set{l:List Int}{z:Int}(h:B8 l)(hz:By z)(i:Nat):B8 (l.set i z):=fun x hx=>by
 rcases List.mem_or_eq_of_mem_set hx with h1 | rfl
 .exact h x h1
 .exact hz
theorem B8.at{l:List Int}(h:B8 l){i:Nat}(hi:i < l.length):By (l.getD i 0):=by
 simp only[List.getD_eq_getElem?_getD,List.getElem?_eq_getElem hi,Option.getD_some];exact h _ (List.getElem_mem hi)
theorem four{t:Int}(h0:0<=t)(h1:t < 4):t=0∨t=1∨t=2∨t=3:=by omega
theorem aaO{l:List Int}(h:l.length=16):∃a0 a1 a2 a3 b0 b1 b2 b3 c0 c1 c2 c3 d0 d1 d2 d3,l=[a0,a1,a2,a3,b0,b1,b2,b3,c0,c1,c2,c3,d0,d1,d2,d3]:=by
 match l,h with
 | [a0,a1,a2,a3,b0,b1,b2,b3,c0,c1,c2,c3,d0,d1,d2,d3],_=>exact⟨_,_,_,_,_,_,_,_,_,_,_,_,_,_,_,_,rfl⟩
end Go.V
namespace Go.Proofs.YtefdekemmnnclaaGreat
open Go.V
section
variable {w:Wd}
theorem Xy{l:List Int}(hl:l.length=16){t:Int}(h0:0<=t)(h1:t < 4):∃r0 r1 r2 r3:Int,Sem.run pz (Instr.index 465 (.agg (List.map (Value.int .u8) l++[]).toArray) (.int .i64 t)) w = .ok (.agg ([.int .u8 r0,.int .u8 r1,.int .u8 r2,.int .u8 r3]).toArray) w/\∀u,u < 4->[r0,r1,r2,r3].getD u 0=l.getD (4 * t.toNat+u) 0:=by
 obtain⟨a0,a1,a2,a3,b0,b1,b2,b3,c0,c1,c2,c3,d0,d1,d2,d3,rfl⟩:=aaO hl;have q:∀{u:Nat},u < 4->u=0∨u=1∨u=2∨u=3:=fun h=>by omega
 rcases four h0 h1 with rfl | rfl | rfl | rfl
 .exact⟨a0,a1,a2,a3,by kernel_rfl,fun u hu=>by rcases q hu with rfl | rfl | rfl | rfl <;> rfl⟩
 .exact⟨b0,b1,b2,b3,by kernel_rfl,fun u hu=>by rcases q hu with rfl | rfl | rfl | rfl <;> rfl⟩
 .exact⟨c0,c1,c2,c3,by kernel_rfl,fun u hu=>by rcases q hu with rfl | rfl | rfl | rfl <;> rfl⟩
 .exact⟨d0,d1,d2,d3,by kernel_rfl,fun u hu=>by rcases q hu with rfl | rfl | rfl | rfl <;> rfl⟩
theorem Xz{c0 c1 c2 c3:Int}{t:Int}(h0:0<=t)(h1:t < 4):Sem.run pz (Instr.index 275 (.agg ([.int .u8 c0,.int .u8 c1,.int .u8 c2,.int .u8 c3]).toArray) (.int .i64 t)) w = .ok (.int .u8 ([c0,c1,c2,c3].getD t.toNat 0)) w:=by
 rcases four h0 h1 with rfl | rfl | rfl | rfl <;> kernel_rfl
def ow(rows c:List Int)(t u:Nat)(j:Nat):Int:=if j < t then IM rows c j 4 else if j=t then IM rows c j u else 0
theorem TX{fy:List Int}{c0 c1 c2 c3:Int}{K:Int->Int->Int->Int->Pw}(hl:fy.length=16)(hr0:B8 fy)(hc:B8 [c0,c1,c2,c3])
  (k:∀w',Ext No w w'->K (IM fy [c0,c1,c2,c3] 0 4) (IM fy [c0,c1,c2,c3] 1 4) (IM fy [c0,c1,c2,c3] 2 4) (IM fy [c0,c1,c2,c3] 3 4) w'):uJ fy c0 c1 c2 c3 w K:=by
 apply Ja
 refine fun b w1 n1 b1 w2 n2 b2 w3 n3 b3 w4 n4=>⟨fy,hl,?_,?_⟩
 .exact av.row ((((av.new n1).ext n2.ext fun h=>h).ext n3.ext fun h=>h).ext n4.ext fun h=>h)
 have s1:=n1.at_;have s2:=n2.at_;have s3:=n3.at_;have s4:=n4.at_;have z1:=n1.size;have z2:=n2.size;have z3:=n3.size;have z4:=n4.size;have x4:Ext No w w4:=((n1.ext.no n2.ext).no n3.ext).no n4.ext;have a1:av w4.heap b1 275 .u8 [c0,c1,c2,c3]:=((show av w2.heap b1 275 .u8 [c0,c1,c2,c3] from n2.get).ext n3.ext fun h=>h).ext n4.ext fun h=>h
 have a2:av w4.heap b2 275 .u8 [0,0,0,0]:=(show av w3.heap b2 275 .u8 [0,0,0,0] from n3.get).ext n4.ext fun h=>h
 have a3:av w4.heap b3 275 .u8 [0,0,0,0]:=n4.get
 let Inv:Wd->List Int->Prop:=fun w' o=>Ext No w w'/\av w'.heap b1 275 .u8 [c0,c1,c2,c3]/\av w'.heap b2 275 .u8 [0,0,0,0]/\av w'.heap b3 275 .u8 o
 have i4:Inv w4 (tab 4 (ow fy [c0,c1,c2,c3] 0 0)):=⟨x4,a1,a2,a3⟩
 have iz:∀{u u':Wd}{o:List Int},Inv u o->Ext No u u'->Inv u' o:=fun h x=>⟨h.1.no x,h.2.1.ext x fun h=>h,h.2.2.1.ext x fun h=>h,h.2.2.2.ext x fun h=>h⟩
 refine⟨fun m t w'=>t=4 - (m:Int)/\m<=4/\Inv w' (tab 4 (ow fy [c0,c1,c2,c3] t.toNat 0)),⟨4,by omega,by omega,i4⟩,?_⟩;rintro _ m t w5 ⟨ht,hm,hi⟩;refine If.dec (fun h=>?_) fun h=>?_
 .obtain⟨r0,r1,r2,r3,hr,hrv⟩:=Xy (w:=w5) hl (t:=t) (by omega) (by omega);refine⟨r0,r1,r2,r3,w5,hr,fun b4 w6 n6=>⟨rfl,?_⟩⟩;have a4:av w6.heap b4 275 .u8 [0,0,0,0]:=n6.get;have i6:=iz hi n6.ext;have ZG:=i6.2.1.lt;have L6:=i6.2.2.1.lt;have TY:=i6.2.2.2.lt;have s6:=n6.at_;have z6:=n6.size;have z5:=hi.1.size;have ae3:=hi.2.1.lt;have ae4:=hi.2.2.1.lt;have ae5:b3 < w5.heap.size:=hi.2.2.2.lt
  refine av.oH (l':=[r0,r1,r2,r3]) a4 rfl fun w7 a7 x7=>⟨r0,Cell.ah a7 rfl,r1,Cell.ah a7 rfl,r2,Cell.ah a7 rfl,r3,Cell.ah a7 rfl,?_⟩
  have i7:Inv w7 (tab 4 (ow fy [c0,c1,c2,c3] t.toNat 0)):=⟨i6.1.out x7 (by omega),i6.2.1.ext x7 (by omega),i6.2.2.1.ext x7 (by omega),i6.2.2.2.ext x7 (by omega)⟩
  refine⟨fun m' t' w'=>t'=4 - (m':Int)/\m'<=4/\Inv w' (tab 4 (ow fy [c0,c1,c2,c3] t.toNat t'.toNat)),⟨4,by omega,by omega,i7⟩,?_⟩;rintro _ m2 t2 w8 ⟨ht2,KV,i8⟩;refine If.dec (fun h2=>?_) fun h2=>Ar.i64 (by omega) ⟨m - 1,by omega,by omega,by omega,?_⟩
  .refine⟨_,w8,Xz (by omega) (by omega),Ext No w8,(Ext.refl _ _).drew,by omega,by omega,_,i8.2.2.2.held (fun h=>h) (by omega) (by rw[aB];omega),by omega,by omega,_,i8.2.1.held (fun h=>h) (by omega) (by show t2 < 4;omega),?_⟩;have hbr:By ([r0,r1,r2,r3].getD t2.toNat 0):=by rw[hrv _ (by omega)];exact hr0.get _
   have Vr:By ([c0,c1,c2,c3].getD t2.toNat 0):=hc.get _
   have ev:(tab 4 (ow fy [c0,c1,c2,c3] t.toNat t2.toNat)).getD t.toNat 0=IM fy [c0,c1,c2,c3] t.toNat t2.toNat:=by
    rw[bH (by omega)];unfold ow;rw[if_neg (by omega),if_pos rfl]
   rw[ev];refine DW hbr Vr ⟨(Ext.refl _ _).drew,Nm.as (br (Gv hr0 _ _) (IL _ hbr)) ⟨by omega,by omega,?_⟩⟩;have aod:av (aa w8).heap b3 275 .u8 (tab 4 (ow fy [c0,c1,c2,c3] t.toNat t2.toNat)):=i8.2.2.2;refine aod.st (by omega) (by rw[aB];omega) fun w9 a9 x9=>Ar.i64 (by omega) ⟨m2 - 1,by omega,by omega,by omega,?_⟩
   have JK:=i8.1.size;refine⟨(i8.1.drew).out x9 (by omega),(show av (aa w8).heap b1 275 .u8 _ from i8.2.1).ext x9 (by omega),(show av (aa w8).heap b2 275 .u8 _ from i8.2.2.1).ext x9 (by omega),?_⟩;rw[hrv _ (by omega),eB (g:=ow fy [c0,c1,c2,c3] t.toNat (t2+1).toNat)]at a9
   .exact a9
   .intro j _;unfold ow;rw[show(t2+1).toNat=t2.toNat+1 by omega];by_cases hj:j=t.toNat
    .subst hj;rw[if_pos rfl,if_neg (by omega),if_pos rfl];rfl
    .rw[if_neg hj];simp only[if_neg hj]
  .have e:tab 4 (ow fy [c0,c1,c2,c3] t.toNat t2.toNat)=tab 4 (ow fy [c0,c1,c2,c3] (t+1).toNat 0):=aQ fun j _=>by
    unfold ow;rw[show(t+1).toNat=t.toNat+1 by omega,show t2.toNat=4 by omega];by_cases h1:j < t.toNat
    .rw[if_pos h1,if_pos (by omega)]
    .rw[if_neg h1];by_cases h2:j=t.toNat
     .rw[if_pos h2,if_pos (by omega)]
     .rw[if_neg h2,if_neg (by omega)];simp[IM]
   rw[<- e];exact i8
 .have e4:t.toNat=4:=by omega
  rw[e4]at hi;have ao:av w5.heap b3 275 .u8 [IM fy [c0,c1,c2,c3] 0 4,IM fy [c0,c1,c2,c3] 1 4,IM fy [c0,c1,c2,c3] 2 4,IM fy [c0,c1,c2,c3] 3 4]:=hi.2.2.2;refine⟨_,Cell.ah ao rfl,_,Cell.ah ao rfl,_,Cell.ah ao rfl,_,Cell.ah ao rfl,rfl,?_⟩
  refine av.oH (l':=[_,_,_,_]) hi.2.2.1 rfl fun w7 a7 x7=>⟨_,Cell.ah a7 rfl,_,Cell.ah a7 rfl,_,Cell.ah a7 rfl,_,Cell.ah a7 rfl,?_⟩
  exact k _ (hi.1.out x7 (by omega))
end
end Go.Proofs.YtefdekemmnnclaaGreat
namespace Go.V
theorem AW(a i:Nat):btN a i<=1:=by unfold btN;omega
theorem Vs{a:Nat}(b:Nat)(ha:a < 256):∀n,rp a b n < 2 ^ (8+n)
 | 0=>by show 0 < 2 ^ 8;decide
 | n+1=>by
  have ih:=Vs b ha n;have h1:rp a b n < 2 ^ (8+(n+1)):=Nat.lt_of_lt_of_le ih (Nat.pow_le_pow_right (by decide) (by omega));rw[rp];split
  .refine Nat.xor_lt_two_pow h1 ?_;have:a * 2 ^ n < 2 ^ 8 * 2 ^ n:=Nat.mul_lt_mul_of_pos_right ha (Nat.pow_pos (by decide));rw[<- Nat.pow_add]at this;exact Nat.lt_of_lt_of_le this (Nat.pow_le_pow_right (by decide) (by omega))
  .exact h1
theorem XA{x c:Int}(hx:0<=x/\x < 4)(hc:By c):((rm x.toNat c.toNat:Nat):Int)=gm x c:=by
 have:=aaw ⟨x.toNat,by omega⟩ ⟨c.toNat,by omega⟩;simp only at this;unfold gm;rw[this]
theorem QW:∀i:Fin 4,∀k:Fin 4,pL.getD (4 * i.val+k.val) 0=[2,3,1,1].getD ((k.val+4 - i.val) % 4) 0:=by decide
end Go.V
namespace Go.Proofs.YtefdekemmnnclaaGreat
open Go.V
section
variable {w:Wd}
theorem lJ{a i:Int}{K:Int->Pw}(ha:By a)(hi:0<=i)(k:K ((btN a.toNat i.toNat:Nat):Int) w):eT a i w K:=by
 apply Jz;have em:Int.tmod i 8=i % 8:=Int.tmod_eq_emod_of_nonneg hi;have hm:(i % 8).toNat=i.toNat % 8:=by omega
 have ed:Int.fdiv a (2 ^ min (Int.toNat (i % 8)) (IntKind.bits .u8))=((a.toNat / 2 ^ (i.toNat % 8):Nat):Int):=by
  rw[fdiv_pow,show min (Int.toNat (i % 8)) (IntKind.bits .u8)=i.toNat % 8 by show min _ 8=_;omega];obtain⟨m,rfl⟩:=Int.eq_ofNat_of_zero_le ha.1;simp
 have aV:a.toNat / 2 ^ (i.toNat % 8)<=a.toNat:=Nat.div_le_self _ _;unfold btN at k;generalize a.toNat / 2 ^ (i.toNat % 8)=d at *;refine⟨by decide,Nm.as em ⟨by omega,Nm.as ed (Ar.i64 (by have:=ha.2;omega) ⟨by decide,Nm.as (e':=((d % 2:Nat):Int)) ?_ k⟩)⟩⟩;rw[Int.tmod_eq_emod_of_nonneg (by omega)];omega
theorem AX{a b:Int}{K:Int->Pw}(ha:By a)(hb:By b)(k:K ((rm a.toNat b.toNat:Nat):Int) w):mi a b w K:=by
 apply JA;refine⟨fun m p i w'=>w'=w/\i=8 - (m:Int)/\m<=8/\p=((rp a.toNat b.toNat i.toNat:Nat):Int),⟨8,rfl,by omega,by omega,rfl⟩,?_⟩;rintro _ m p i w1 ⟨rfl,hi,hm,rfl⟩;have hp:=Vs b.toNat (a:=a.toNat) (by omega) i.toNat;have aaP:rp a.toNat b.toNat i.toNat < 2 ^ 16:=Nat.lt_of_lt_of_le hp (Nat.pow_le_pow_right (by decide) (by omega));refine If.dec (fun h=>?_) fun h=>?_
 .have e1:(i+1).toNat=i.toNat+1:=by omega
  have XB:btN b.toNat i.toNat=b.toNat / 2 ^ i.toNat % 2:=by unfold btN;rw[show i.toNat % 8=i.toNat by omega]
  refine lJ hb (by omega) (If.beq (fun h1=>Ar.i64 (by omega) ⟨by omega,?_⟩) fun h1=>?_)
  .have ez:a * 2 ^ min (Int.toNat i) (IntKind.bits .i64)=((a.toNat * 2 ^ i.toNat:Nat):Int):=by
    rw[show min (Int.toNat i) (IntKind.bits .i64)=i.toNat by show min _ 64=_;omega];obtain⟨m,rfl⟩:=Int.eq_ofNat_of_zero_le ha.1;simp
   have hz:a.toNat * 2 ^ i.toNat < 2 ^ 16:=by
    have h2:a.toNat * 2 ^ i.toNat < 2 ^ 8 * 2 ^ i.toNat:=Nat.mul_lt_mul_of_pos_right (by omega) (Nat.pow_pos (by decide));rw[<- Nat.pow_add]at h2;exact Nat.lt_of_lt_of_le h2 (Nat.pow_le_pow_right (by decide) (by omega))
   rw[ez];refine Ar.i64 (by omega) (Nm.as (mQ (by omega) (by omega)) (Ar.i64 (by omega) ⟨m - 1,by omega,rfl,by omega,by omega,?_⟩));rw[e1,rp,if_pos (by omega)];rfl
  .refine Ar.i64 (by omega) ⟨m - 1,by omega,rfl,by omega,by omega,?_⟩;rw[e1,rp,if_neg (by omega)]
 .have e8:i.toNat=8:=by omega
  rw[e8]at aaP ⊢;refine⟨fun m p i w'=>w'=w1/\i=(m:Int)+7/\m<=7/\∃q:Nat,p=(q:Int)/\q < 2 ^ 16/\rd m q=rd 7 (rp a.toNat b.toNat 8),⟨7,rfl,by omega,by omega,_,rfl,aaP,rfl⟩,?_⟩;rintro _ m p i w2 ⟨rfl,rfl,hm,q,rfl,hq,e⟩;refine If.dec (fun h=>?_) fun h=>?_
  .obtain⟨n,rfl⟩ : ∃n,m=n+1:=⟨m - 1,by omega⟩
   have ed:Int.fdiv (q:Int) (2 ^ min (Int.toNat (((n+1:Nat):Int)+7)) (IntKind.bits .i64))=((q / 2 ^ (n+8):Nat):Int):=by
    rw[fdiv_pow,show min (Int.toNat (((n+1:Nat):Int)+7)) (IntKind.bits .i64)=n+8 by show min _ 64=_;omega];simp
   rw[rd]at e;generalize q / 2 ^ (n+8)=d at *;refine⟨by omega,Nm.as ed ⟨by decide,Nm.as (e':=((d % 2:Nat):Int)) (by rw[Int.tmod_eq_emod_of_nonneg (by omega)];omega) (If.beq (fun h1=>?_) fun h1=>?_)⟩⟩
   .rw[if_pos (by omega)]at e
    have ez:283 * 2 ^ min (Int.toNat (n:Int)) (IntKind.bits .i64)=((283 * 2 ^ n:Nat):Int):=by
     rw[show min (Int.toNat (n:Int)) (IntKind.bits .i64)=n by show min _ 64=_;omega];simp
    have hz:283 * 2 ^ n < 2 ^ 16:=by
     have:2 ^ n<=2 ^ 6:=Nat.pow_le_pow_right (by decide) (by omega);omega
    refine Ar.i64 (by omega) ⟨by omega,?_⟩;rw[show((n+1:Nat):Int)+7 - 8=(n:Int) by omega,ez];refine Ar.i64 (by omega) (Nm.as (mQ (by omega) (by omega)) (Ar.i64 (by omega) ⟨n,by omega,rfl,by omega,by omega,_,rfl,?_,e⟩));exact Nat.xor_lt_two_pow hq hz
   .rw[if_neg (by omega)]at e;exact Ar.i64 (by omega) ⟨n,by omega,rfl,by omega,by omega,q,rfl,hq,e⟩
  .have e0:m=0:=by omega
   subst e0;refine Ar.KS ?_
   have:(q:Int) % 256=((rm a.toNat b.toNat:Nat):Int):=by
    unfold rm;rw[<- e,rd];omega
   rw[this];exact k
theorem OD{a:Int}{K:Int->Pw}(ha:By a)(k:K ((Lo a.toNat 256 0:Nat):Int) w):uH a w K:=by
 apply JB;refine⟨fun m i w'=>w'=w/\i=256 - (m:Int)/\m<=256/\Lo a.toNat m i.toNat=Lo a.toNat 256 0,⟨256,rfl,by omega,by omega,rfl⟩,?_⟩;rintro _ m i w1 ⟨rfl,hi,hm,e⟩;refine If.dec (fun h=>?_) fun h=>?_
 .obtain⟨n,rfl⟩ : ∃n,m=n+1:=⟨m - 1,by omega⟩
  rw[Lo]at e;refine Ar.u8 (by omega) (AX ha (by constructor <;> omega) (If.beq (fun h1=>Ar.u8 (by omega) ?_) fun h1=>?_))
  .rw[if_pos (by omega)]at e;rw[<- e]at k;have:((i.toNat:Nat):Int)=i:=by omega
   rw[this]at k;exact k
  .rw[if_neg (by omega)]at e;refine Ar.i64 (by omega) ⟨n,by omega,rfl,by omega,by omega,?_⟩;rw[show(i+1).toNat=i.toNat+1 by omega];exact e
 .have:m=0:=by omega
  subst this;rw[Lo]at e;rw[<- e]at k;exact k
theorem OE{n:Nat}{K:Int->Pw}(hn:n < 16)(k:K (pw 2 (n:Int)) w):pU 2 (n:Int) w K:=by
 apply Fe
 have ek:pw 2 (n:Int)=((Lp 2 n 1:Nat):Int):=by
  have:=Xg ⟨n,hn⟩;simp only at this;rw[this];rfl
 rw[ek]at k;refine If.beq (fun h=>?_) fun h=>If.beq (fun h2=>absurd h2 (by decide)) fun _=>?_
 .have:n=0:=by omega
  subst this;exact k
 .refine⟨fun m c i w'=>w'=w/\i=(n:Int) - m/\m<=n/\By c/\Lp 2 m c.toNat=Lp 2 n 1,⟨n,rfl,by omega,Nat.le_refl _,⟨by decide,by decide⟩,rfl⟩,?_⟩;rintro _ m c i w1 ⟨rfl,hi,hm,hc,e⟩;have et:Int.tmod (n:Int) 255=(n:Int):=by rw[Int.tmod_eq_emod_of_nonneg (by omega)];omega
  refine⟨by decide,Nm.as et (If.dec (fun h1=>?_) fun h1=>?_)⟩
  .obtain⟨j,rfl⟩ : ∃j,m=j+1:=⟨m - 1,by omega⟩
   rw[Lp]at e;refine AX hc ⟨by decide,by decide⟩ (Ar.u32 (by omega) ⟨j,by omega,rfl,by omega,by omega,?_,?_⟩)
   .unfold rm;constructor <;> omega
   .rw[Int.toNat_natCast];exact e
  .have:m=0:=by omega
   subst this;rw[Lp]at e;rw[<- e]at k;have:((c.toNat:Nat):Int)=c:=by have:=hc.1;omega
   rw[this]at k;exact k
theorem AY{a:Int}{K:Int->Pw}(ha:By a)(k:K (sb a) w):mh a w K:=by
 apply JC
 have ek:sb a=((Xf (Lo a.toNat 256 0) 8 0 % 256:Nat):Int):=by
  have:=aax ⟨a.toNat,by omega⟩;simp only at this;rw[this];rfl
 rw[ek]at k;refine OD ha ?_
 have hiv:∀m i,i+m<=256->Lo a.toNat m i < 256:=fun m=>by
  induction m with
  | zero=>intro i _;rw[Lo];decide
  | succ m ih=>
   intro i hi;rw[Lo];split
   .omega
   .exact ih _ (by omega)
 have hb:By ((Lo a.toNat 256 0:Nat):Int):=by have:=hiv 256 0 (by omega);constructor <;> omega
 have XB:(((Lo a.toNat 256 0:Nat):Int)).toNat=Lo a.toNat 256 0:=Int.toNat_natCast _;generalize Lo a.toNat 256 0=b at *;refine⟨fun m s i w'=>w'=w/\i=(m:Int) - 1/\m<=8/\∃q:Nat,s=(q:Int)/\q < 2 ^ (8 - m)/\Xf b m q=Xf b 8 0,⟨8,rfl,by omega,by omega,0,rfl,by decide,rfl⟩,?_⟩;rintro _ m s i w1 ⟨rfl,hi,hm,q,rfl,hq,e⟩;refine If.dec (fun h=>?_) fun h=>?_
 .obtain⟨n,rfl⟩ : ∃n,m=n+1:=⟨m - 1,by omega⟩
  have hq8:q < 2 ^ 8:=Nat.lt_of_lt_of_le hq (Nat.pow_le_pow_right (by decide) (by omega));rw[Xf]at e;have l0:=AW b n;have l4:=AW b (n+4);have l5:=AW b (n+5);have l6:=AW b (n+6);have l7:=AW b (n+7);have l9:=AW 99 n;have en:i=(n:Int):=by omega
  subst en;have e4:((n:Int)+4).toNat=n+4:=by omega
  have e5:((n:Int)+5).toNat=n+5:=by omega
  have e6:((n:Int)+6).toNat=n+6:=by omega
  have e7:((n:Int)+7).toNat=n+7:=by omega
  refine Ar.i64 (by omega) (lJ hb (by omega) (Ar.i64 (by omega) (lJ hb (by omega) ?_)));rw[XB,Int.toNat_natCast,e4];refine Ar.i64 (by omega) (Ar.i64 (by omega) (lJ hb (by omega) ?_));rw[XB,e5];refine Ar.i64 (by omega) (Ar.i64 (by omega) (lJ hb (by omega) ?_));rw[XB,e6];refine Ar.i64 (by omega) (Ar.i64 (by omega) (lJ hb (by omega) ?_));rw[XB,e7];refine Ar.i64 (by omega) (lJ ⟨by decide,by decide⟩ (by omega) ?_);rw[show(99:Int).toNat=99 from rfl,Int.toNat_natCast];refine Ar.i64 (by omega) ⟨by decide,Nm.as (e':=(((btN b n+btN b (n+4)+btN b (n+5)+btN b (n+6)+btN b (n+7)+btN 99 n) % 2:Nat):Int)) (by rw[Int.tmod_eq_emod_of_nonneg (by omega)];omega) ?_⟩;generalize btN b n+btN b (n+4)+btN b (n+5)+btN b (n+6)+btN b (n+7)+btN 99 n=g at *;refine Ar.i64 (by omega) (Ar.i64 (by omega) ⟨n,by omega,rfl,by omega,by omega,2 * q+g % 2,by omega,?_,e⟩);have e8:8 - n=(8 - (n+1))+1:=by omega
  rw[e8,Nat.pow_succ];omega
 .have:m=0:=by omega
  subst this;rw[Xf]at e;refine Ar.KS ?_;rw[<- e]at k;have:(q:Int) % 256=((q % 256:Nat):Int):=by omega
  rw[this];exact k
theorem L7{c0 c1 c2 c3:Int}{K:Int->Int->Int->Int->Pw}(hc:B8 [c0,c1,c2,c3])
  (k:∀w',Ext No w w'->K (cf [c0,c1,c2,c3] 0) (cf [c0,c1,c2,c3] 1) (cf [c0,c1,c2,c3] 2) (cf [c0,c1,c2,c3] 3) w'):sg 2 3 1 1 c0 c1 c2 c3 w K:=by
 apply Hn;refine fun b w1 n1 b1 w2 n2 b2 w3 n3 b3 w4 n4=>?_
 have s1:=n1.at_;have s2:=n2.at_;have s3:=n3.at_;have s4:=n4.at_;have z1:=n1.size;have z2:=n2.size;have z3:=n3.size;have z4:=n4.size;have x4:Ext No w w4:=((n1.ext.no n2.ext).no n3.ext).no n4.ext;have a0:av w4.heap b 275 .u8 [2,3,1,1]:=(((show av w1.heap b 275 .u8 [2,3,1,1] from n1.get).ext n2.ext fun h=>h).ext n3.ext fun h=>h).ext n4.ext fun h=>h
 have a1:av w4.heap b1 275 .u8 [c0,c1,c2,c3]:=((show av w2.heap b1 275 .u8 [c0,c1,c2,c3] from n2.get).ext n3.ext fun h=>h).ext n4.ext fun h=>h
 have a2:av w4.heap b2 275 .u8 [0,0,0,0]:=(show av w3.heap b2 275 .u8 [0,0,0,0] from n3.get).ext n4.ext fun h=>h
 have a3:av w4.heap b3 275 .u8 [0,0,0,0]:=n4.get
 let Inv:Wd->List Int->Prop:=fun w' o=>Ext No w w'/\av w'.heap b 275 .u8 [2,3,1,1]/\av w'.heap b1 275 .u8 [c0,c1,c2,c3]/\av w'.heap b2 275 .u8 [0,0,0,0]/\av w'.heap b3 275 .u8 o
 have i4:Inv w4 (tab 4 (ow pL [c0,c1,c2,c3] 0 0)):=⟨x4,a0,a1,a2,a3⟩
 refine⟨fun m t w'=>t=4 - (m:Int)/\m<=4/\Inv w' (tab 4 (ow pL [c0,c1,c2,c3] t.toNat 0)),⟨4,by omega,by omega,i4⟩,?_⟩;rintro _ m t w5 ⟨ht,hm,hi⟩;refine If.dec (fun h=>?_) fun h=>?_
 .refine⟨fun m' t' w'=>t'=4 - (m':Int)/\m'<=4/\Inv w' (tab 4 (ow pL [c0,c1,c2,c3] t.toNat t'.toNat)),⟨4,by omega,by omega,hi⟩,?_⟩;rintro _ m2 t2 w8 ⟨ht2,KV,i8⟩;refine If.dec (fun h2=>?_) fun h2=>Ar.i64 (by omega) ⟨m - 1,by omega,by omega,by omega,?_⟩
  .have ez:Int.tmod (t2 - t+4) 4=(((t2.toNat+4 - t.toNat) % 4:Nat):Int):=by rw[Int.tmod_eq_emod_of_nonneg (by omega)];omega
   refine⟨Ext No w8,(Ext.refl _ _).drew,by omega,by omega,_,i8.2.2.2.2.held (fun h=>h) (by omega) (by rw[aB];omega),Ar.i64 (by omega) (Ar.i64 (by omega) ⟨by decide,Nm.as ez ⟨by omega,by omega,_,i8.2.1.held (fun h=>h) (by omega) (by show _ < 4;omega),by omega,by omega,_,i8.2.2.1.held (fun h=>h) (by omega) (by show t2 < 4;omega),?_⟩⟩)⟩
   have er:[2,3,1,1].getD ((((t2.toNat+4 - t.toNat) % 4:Nat):Int)).toNat 0=pL.getD (4 * t.toNat+t2.toNat) 0:=by
    have:=QW ⟨t.toNat,by omega⟩ ⟨t2.toNat,by omega⟩;simp only at this;rw[this,Int.toNat_natCast]
   rw[er];have hbr:By (pL.getD (4 * t.toNat+t2.toNat) 0):=CC.get _
   have S8:∀i,0<=pL.getD i 0/\pL.getD i 0 < 4:=fun i=>by
    by_cases hi:i < 16
    .have:∀j:Fin 16,0<=pL.getD j.val 0/\pL.getD j.val 0 < 4:=by decide
     exact this ⟨i,hi⟩
    .have:pL.getD i 0=0:=by rw[List.getD_eq_getElem?_getD,List.getElem?_eq_none (by show 16<=i;omega)];rfl
     rw[this];decide
   have Vr:By ([c0,c1,c2,c3].getD t2.toNat 0):=hc.get _
   have ev:(tab 4 (ow pL [c0,c1,c2,c3] t.toNat t2.toNat)).getD t.toNat 0=IM pL [c0,c1,c2,c3] t.toNat t2.toNat:=by
    rw[bH (by omega)];unfold ow;rw[if_neg (by omega),if_pos rfl]
   rw[ev];refine AX hbr Vr ?_;rw[XA (S8 _) Vr];refine⟨(Ext.refl _ _).drew,Nm.as (br (Gv CC _ _) (IL _ hbr)) ⟨by omega,by omega,?_⟩⟩;have aod:av (aa w8).heap b3 275 .u8 (tab 4 (ow pL [c0,c1,c2,c3] t.toNat t2.toNat)):=i8.2.2.2.2;refine aod.st (by omega) (by rw[aB];omega) fun w9 a9 x9=>Ar.i64 (by omega) ⟨m2 - 1,by omega,by omega,by omega,?_⟩
   have JK:=i8.1.size;refine⟨(i8.1.drew).out x9 (by omega),(show av (aa w8).heap b 275 .u8 _ from i8.2.1).ext x9 (by omega),(show av (aa w8).heap b1 275 .u8 _ from i8.2.2.1).ext x9 (by omega),(show av (aa w8).heap b2 275 .u8 _ from i8.2.2.2.1).ext x9 (by omega),?_⟩;rw[eB (g:=ow pL [c0,c1,c2,c3] t.toNat (t2+1).toNat)]at a9
   .exact a9
   .intro j _;unfold ow;rw[show(t2+1).toNat=t2.toNat+1 by omega];by_cases hj:j=t.toNat
    .subst hj;rw[if_pos rfl,if_neg (by omega),if_pos rfl];rfl
    .rw[if_neg hj];simp only[if_neg hj]
  .have e:tab 4 (ow pL [c0,c1,c2,c3] t.toNat t2.toNat)=tab 4 (ow pL [c0,c1,c2,c3] (t+1).toNat 0):=aQ fun j _=>by
    unfold ow;rw[show(t+1).toNat=t.toNat+1 by omega,show t2.toNat=4 by omega];by_cases h1:j < t.toNat
    .rw[if_pos h1,if_pos (by omega)]
    .rw[if_neg h1];by_cases h2:j=t.toNat
     .rw[if_pos h2,if_pos (by omega)]
     .rw[if_neg h2,if_neg (by omega)];simp[IM]
   rw[<- e];exact i8
 .have e4:t.toNat=4:=by omega
  rw[e4]at hi;have ao:av w5.heap b3 275 .u8 [cf [c0,c1,c2,c3] 0,cf [c0,c1,c2,c3] 1,cf [c0,c1,c2,c3] 2,cf [c0,c1,c2,c3] 3]:=hi.2.2.2.2;refine⟨_,Cell.ah ao rfl,_,Cell.ah ao rfl,_,Cell.ah ao rfl,_,Cell.ah ao rfl,rfl,?_⟩
  refine av.oH (l':=[_,_,_,_]) hi.2.2.2.1 rfl fun w7 a7 x7=>⟨_,Cell.ah a7 rfl,_,Cell.ah a7 rfl,_,Cell.ah a7 rfl,_,Cell.ah a7 rfl,?_⟩
  exact k _ (hi.1.out x7 (by omega))
end
end Go.Proofs.YtefdekemmnnclaaGreat
namespace Go.V
section
variable {w w':Wd} {b:Nat} {T:TypeId} {k:IntKind} {l:List Int}
theorem av.FR(a:av w.heap b T k l){o j:Nat}(h:o+j < l.length):Cell w ((⟨b,o,none⟩ : Addr).add j) (.int k (l.getD (o+j) 0)):=by
 rw[ay rfl];exact a.wg h
theorem av.DY{S:Nat->Prop}(a:av w.heap b T k l)(hb:¬ S b){o j:Nat}(h:o+j < l.length):af (Ext S w) ((⟨b,o,none⟩ : Addr).add j) (.int k (l.getD (o+j) 0)):=by
 rw[ay rfl];exact af.bq (a.wg h) hb
theorem JL{l vs:List Int}{o:Nat}(h:o+vs.length<=l.length)(i:Nat):(l.take o++(vs++l.drop (o+vs.length))).getD i 0=if i < o then l.getD i 0 else if i < o+vs.length then vs.getD (i - o) 0 else l.getD i 0:=by
 simp only[List.getD_eq_getElem?_getD];by_cases h1:i < o
 .rw[if_pos h1,List.getElem?_append_left (by simp;omega),List.getElem?_take_of_lt h1]
 .rw[if_neg h1,List.getElem?_append_right (by simp;omega)];have e:(l.take o).length=o:=by simp;omega
  rw[e];by_cases h2:i < o+vs.length
  .rw[if_pos h2,List.getElem?_append_left (by omega)]
  .rw[if_neg h2,List.getElem?_append_right (by omega),List.getElem?_drop];congr 2;omega
theorem Ht{l vs:List Int}{o:Nat}(h:o+vs.length<=l.length):(l.take o++(vs++l.drop (o+vs.length))).length=l.length:=by simp;omega
theorem av.ac4{vs:List Int}{o:Nat}{K:Pw}(a:av w.heap b T k l)(ho:o+vs.length<=l.length)(hk:∀w',av w'.heap b T k (l.take o++(vs++l.drop (o+vs.length)))->Ext (·=b) w w'->K w'):cr w ⟨b,o,none⟩ (vs.map (Value.int k)) K:=by
 refine⟨_,_,_,a,rfl,by simpa using ho,.inr (.inr (Nat.le_refl _)),fun v hv=>cZ v hv,fun w' hw=>hk w' ?_ hw.ext⟩;have:=hw.get a
 have e:setL (l.map (Value.int k)) o (vs.map (Value.int k))=(l.take o++(vs++l.drop (o+vs.length))).map (Value.int k):=by
  rw[gJ _ _ _ (by simpa using ho)];simp
 simp only[e]at this;exact this
theorem Ix.arr{n:Nat}{t:Int}{sz:Nat}{K:Addr->Prop}(h0:0<=t)(h1:t < (n:Int))(hk:K ⟨b,t.toNat * sz,none⟩):Ix (some ⟨b,0,none⟩) n t sz K:=
 ⟨_,rfl,h0,h1,by rw[ay rfl];simpa using hk⟩
theorem B8.py(n:Nat):B8 (List.replicate n 0):=fun x hx=>by rw[(List.mem_replicate.1 hx).2];exact⟨by omega,by omega⟩
theorem cQ{t:Int}{n:Int}(h:0<=t):Int.tmod t n=t % n:=Int.tmod_eq_emod_of_nonneg h
theorem fB{t:Int}{n:Int}(h:0<=t):Int.tdiv t n=t / n:=Int.tdiv_eq_ediv_of_nonneg h
theorem Rd.aaQ{s:Sl}{sz:Nat}{ks:IntKind}(r:Rd w.heap s sz (l.map (Value.int ks))){K:Addr->Prop}{z:Int}(hs:l.length=s.len * sz)(hz:0 < sz)(h0:0<=z)(h1:z < (s.len:Int))
  (hk:∀b o,(∀j,j < sz->Cell w ⟨b,o+j,none⟩ (.int ks (l.getD (z.toNat * sz+j) 0)))->K ⟨b,o,none⟩):Ix s.a s.len z sz K:=by
 have aV:z.toNat * sz+sz<=l.length:=by
  rw[hs];have:z.toNat+1<=s.len:=by omega
  have:=Nat.mul_le_mul_right sz this;rw[Nat.add_mul]at this;omega
 have dz:l.map (Value.int ks)≠[]:=fun e=>by
  have:=congrArg List.length e;simp at this;subst this;simp at aV;omega
 obtain⟨b,off,ha,hc⟩:=r.at_ dz;refine⟨_,ha,h0,h1,?_⟩;rw[ay rfl];refine hk b _ fun j hj=>Cell.mk ?_
 have:=hc (z.toNat * sz+j) (by simp;omega);rw[<- Nat.add_assoc]at this;rw[this];have hl:z.toNat * sz+j < l.length:=by omega
 simp[List.getD_eq_getElem?_getD,List.getElem?_eq_getElem hl]
end
end Go.V
namespace Go.Proofs.YtefdekemmnnclaaGreat
open Go.V
section
variable {w:Wd}
theorem uW{a b c d:Int}:Sem.run pz (Instr.build 275 #[(0,.int .u8 a),(1,.int .u8 b),(2,.int .u8 c),(3,.int .u8 d)]) w = .ok (.agg ([.int .u8 a,.int .u8 b,.int .u8 c,.int .u8 d]).toArray) w:=by kernel_rfl
theorem QX{c0 c1 c2 c3:Int}{K:Int->Int->Int->Int->Pw}(hc:B8 [c0,c1,c2,c3])(k:∀w',Ext No w w'->K (cf [c0,c1,c2,c3] 0) (cf [c0,c1,c2,c3] 1) (cf [c0,c1,c2,c3] 2) (cf [c0,c1,c2,c3] 3) w'):r_ c0 c1 c2 c3 w K:=by
 apply GQ
 refine fun b w1 n1 b1 w2 n2=>⟨2,3,1,1,w2,uW,1,2,3,1,w2,uW,1,1,2,3,w2,uW,3,1,1,2,w2,uW,pL,rfl,w2,by kernel_rfl,?_⟩
 have a0:av w2.heap b 275 .u8 [c0,c1,c2,c3]:=(show av w1.heap b 275 .u8 [c0,c1,c2,c3] from n1.get).ext n2.ext fun h=>h
 have a1:av w2.heap b1 275 .u8 [0,0,0,0]:=n2.get;have s1:=n1.at_;have s2:=n2.at_;have z1:=n1.size;refine⟨c0,Cell.ah a0 rfl,c1,Cell.ah a0 rfl,c2,Cell.ah a0 rfl,c3,Cell.ah a0 rfl,TX rfl CC hc fun w3 x3=>⟨rfl,?_⟩⟩
 refine av.oH (l':=[_,_,_,_]) (a1.ext x3 fun h=>h) rfl fun w4 a4 x4=>⟨_,Cell.ah a4 rfl,_,Cell.ah a4 rfl,_,Cell.ah a4 rfl,_,Cell.ah a4 rfl,k _ ?_⟩
 exact((n1.ext.no n2.ext).no x3).out x4 (by omega)
theorem qO{b b1:Nat}{T:TypeId}{l z:List Int}{K:List Int->Pw}(a:av w.heap b T .u8 l)(a1:av w.heap b1 T .u8 z)(hl:l.length=16)(hz:z.length=16)(k:∀w',Ext (·=b1) w w'->K l w') :
  ∃l:List Int,l.length=16/\bu (Cell w) (Addr.mk b 0 none) 0 .u8 l/\List.length (α:=Value) (List.map (Value.int .u8) l++[])=16/\cr w (Addr.mk b1 0 none) (List.map (Value.int .u8) l++[]) fun w5=>
   ∃XC:List Int,XC.length=16/\bu (Cell w5) (Addr.mk b1 0 none) 0 .u8 XC/\iC .u8 16 (List.map (Value.int .u8) XC++[]) fun l_2 vs=>eo [] vs (K l_2) fun Kv=>Kv w5:=
 ⟨l,hl,a.row,by rw[List.append_nil,List.length_map];exact hl,a1.oH (by omega) fun w5 a5 x5=>⟨l,hl,a5.row,iC.mk hl (k w5 x5)⟩⟩
theorem uX{s0 wl:List Int}{words:Sl}{K:List Int->Pw}(h0:cE s0)(Ig:B8 wl)(hw:Rd w.heap words 4 (wl.map (Value.int .u8)))(hl:wl.length=words.len * 4)(h4:4<=words.len)(k:∀w',Ext No w w'->K (qq s0 wl 0) w'):dJ s0 words w K:=by
 apply Ce;refine fun b w1 n1 b1 w2 n2=>?_
 have s1:=n1.at_;have s2:=n2.at_;have z1:=n1.size;have x2:Ext No w w2:=n1.ext.no n2.ext
 let g:Nat->Nat->Int:=fun t i=>if i < t then xr (s0.getD i 0) (wl.getD (16 * 0+i) 0) else s0.getD i 0
 have e0:tab 16 (g 0)=s0:=(aQ fun i _=>by show(if i < 0 then _ else _)=_;rw[if_neg (by omega)]).trans (mR h0.1).symm;refine⟨fun m t w'=>t=16 - (m:Int)/\m<=16/\Ext No w w'/\av w'.heap b1 368 .u8 (List.replicate 16 0)/\av w'.heap b 368 .u8 (tab 16 (g t.toNat)),⟨16,by omega,by omega,x2,n2.get,by rw[show((0:Int)).toNat=0 from rfl,e0];exact(av.new n1).ext n2.ext fun h=>h⟩,?_⟩;rintro _ m t w3 ⟨ht,hm,x3,a1,a⟩;refine If.dec (fun h=>?_) fun h=>?_
 .have ev:(tab 16 (g t.toNat)).getD t.toNat 0=s0.getD t.toNat 0:=by
   rw[bH (by omega)];show(if _ then _ else _)=_;rw[if_neg (by omega)]
  have Oh:=a.held (S:=No) (fun h=>h) (t:=t) (by omega) (by rw[aB];omega);rw[ev]at Oh;refine⟨Ext No w3,(Ext.refl _ _).drew,by omega,by omega,_,Oh,by decide,Ar.i64 (by rw[fB (by omega)];omega) ⟨by decide,Nm.as (cQ (by omega)) ?_⟩⟩;rw[fB (by omega)]
  refine(hw.no x3).aaQ hl (by decide) (by omega) (by omega) fun b' o hc=>⟨by omega,by omega,wl.getD ((t / 4).toNat * 4+(t % 4).toNat * 1) 0,?_,Nm.as (br (h0.2.get _) (Ig.get _)) ⟨by omega,by omega,?_⟩⟩
  .rw[ay rfl];exact af.cell (hc _ (by omega))
  .have a':av (aa w3).heap b 368 .u8 (tab 16 (g t.toNat)):=a;have lt:=x3.size;refine a'.st (by omega) (by rw[aB];omega) fun w4 a4 x4=>Ar.i64 (by omega) ⟨m - 1,by omega,by omega,by omega,x3.drew.out x4 (by omega),?_,?_⟩
   .exact(show av (aa w3).heap b1 368 .u8 _ from a1).ext x4 (by omega)
   .rw[eB (g:=g (t+1).toNat)]at a4
    .exact a4
    .intro j _;show(if _ then _ else if _ then _ else _)=if _ then _ else _
     by_cases hj:j=t.toNat
     .rw[if_pos hj,if_pos (by omega),hj];congr 2;omega
     .rw[if_neg hj];by_cases h2:j < t.toNat
      .rw[if_pos h2,if_pos (by omega)]
      .rw[if_neg h2,if_neg (by omega)]
 .have e:tab 16 (g t.toNat)=qq s0 wl 0:=aQ fun i hi=>by show(if _ then _ else _)=_;rw[if_pos (by omega)]
  rw[e]at a;exact qO a a1 (aB _ _) (by simp) fun w' x'=>k w' (x3.out x' (by omega))
theorem L8{s0:List Int}{K:List Int->Pw}(h0:cE s0)(k:∀w',Ext No w w'->K (Nl s0) w'):eR s0 1 w K:=by
 apply yU;refine fun b w1 n1 b1 w2 n2 b2 w3 n3=>?_
 have s1:=n1.at_;have s2:=n2.at_;have s3:=n3.at_;have z1:=n1.size;have z2:=n2.size;have x3:Ext No w w3:=(n1.ext.no n2.ext).no n3.ext
 let g:Nat->Nat->Int:=fun t i=>if i < t then s0.getD (4 * ((i / 4+i % 4) % 4)+i % 4) 0 else 0
 refine⟨fun m t w'=>t=16 - (m:Int)/\m<=16/\Ext No w w'/\av w'.heap b1 368 .u8 (List.replicate 16 0)/\av w'.heap b 368 .u8 s0/\av w'.heap b2 368 .u8 (tab 16 (g t.toNat)),⟨16,by omega,by omega,x3,(show av w2.heap b1 368 .u8 (List.replicate 16 0) from n2.get).ext n3.ext fun h=>h,((av.new n1).ext n2.ext fun h=>h).ext n3.ext fun h=>h,n3.get⟩,?_⟩;rintro _ m t w4 ⟨ht,hm,x4,a1,a,a2⟩;refine If.dec (fun h=>?_) fun h=>?_
 .refine⟨by decide,Nm.as (cQ (by omega)) ⟨by decide,Ar.i64 (by rw[fB (by omega)];omega) ?_⟩⟩;rw[fB (by omega)];refine Ar.i64 (by omega) (Ar.i64 (by omega) ⟨by decide,Nm.as (cQ (by omega)) (Ar.i64 (by omega) (Ar.i64 (by omega) ⟨by omega,by omega,_,a.cell (by omega) (by have:=h0.1;omega),by omega,by omega,?_⟩))⟩);have lt:=x4.size;refine a2.st (by omega) (by rw[aB];omega) fun w5 a5 x5=>Ar.i64 (by omega) ⟨m - 1,by omega,by omega,by omega,x4.out x5 (by omega),a1.ext x5 (by omega),a.ext x5 (by omega),?_⟩
  rw[eB (g:=g (t+1).toNat)]at a5
  .exact a5
  .intro j _;show(if _ then _ else if _ then _ else _)=if _ then _ else _
   by_cases hj:j=t.toNat
   .rw[if_pos hj,if_pos (by omega),hj];congr 1;omega
   .rw[if_neg hj];by_cases h2:j < t.toNat
    .rw[if_pos h2,if_pos (by omega)]
    .rw[if_neg h2,if_neg (by omega)]
 .have e:tab 16 (g t.toNat)=Nl s0:=aQ fun i hi=>by show(if _ then _ else _)=_;rw[if_pos (by omega)]
  rw[e]at a2;exact qO a2 a1 (aB _ _) (by simp) fun w' x'=>k w' (x4.out x' (by omega))
end
end Go.Proofs.YtefdekemmnnclaaGreat
namespace Go.V
section
variable {w w':Wd} {b:Nat} {T:TypeId} {k:IntKind} {l:List Int}
theorem Cut.arr{n:Nat}{lo hi:Int}{K:Sl->Prop}(h0:0<=lo)(h1:lo<=hi)(h2:hi<=(n:Int))(h3:lo < (n:Int))(hk:K ⟨some ⟨b,lo.toNat,none⟩,(hi - lo).toNat,((n:Int) - lo).toNat⟩):Cut ⟨some (Addr.mk b 0 none),n,n⟩ lo hi (((n:Nat):Int)) 1 K:=
 Cut.mk h0 h1 h2 (by simp) (by
  have e:gX (some (Addr.mk b 0 none)) ((n:Int)).toNat lo.toNat 1=some ⟨b,lo.toNat,none⟩:=by
   unfold gX;rw[if_neg (by simp;omega)];simp[ay]
  simp only[e];exact hk)
theorem av.rd(a:av w.heap b T k l){o n c:Nat}(h:o+n<=l.length)(hc:n<=c):Rd w.heap ⟨some ⟨b,o,none⟩,n,c⟩ 1 (((l.drop o).take n).map (Value.int k)):=by
 refine⟨by simp;omega,hc,fun _=>⟨b,o,rfl,fun i hi=>?_⟩,fun v hv=>cZ v hv⟩;have iS:i < n:=by simp at hi;omega
 have:=a.wg (i:=o+i) (by omega);unfold Cell at this;rw[dC]at this;rw[this];simp[List.getD_eq_getElem?_getD,List.getElem?_eq_getElem (show o+i < l.length by omega)]
end
end Go.V
namespace Go.Proofs.YtefdekemmnnclaaGreat
open Go.V
section
variable {w w':Wd}
theorem FT{b:Nat}{T:TypeId}{l xs:List Int}{x:Sl}{o n c:Nat}{K:Int->Pw}(a:av w.heap b T .u8 l)(hx:Rd w.heap x 1 (xs.map (Value.int .u8)))(ho:o+min x.len n<=l.length)
  (hk:∀w',av w'.heap b T .u8 (l.take o++(xs.take (min x.len n)++l.drop (o+min x.len n)))->Ext (·=b) w w'->K ((min x.len n:Nat):Int) w'):hO pz 25 25 ⟨some ⟨b,o,none⟩,n,c⟩ x.v K w:=by
 have hxl:xs.length=x.len:=by have:=hx.len;simpa using this
 refine lE (row:=l.map (Value.int .u8)) rfl a hx (by simpa using ho) fun w' hw=>?_
 refine hk w' ?_ hw.ext;have:=hw.get a
 have e:setL (l.map (Value.int .u8)) o ((xs.map (Value.int .u8)).take (min x.len n * 1))=(l.take o++(xs.take (min x.len n)++l.drop (o+min x.len n))).map (Value.int .u8):=by
  rw[gJ _ _ _ (by simp;omega)];have:min (min x.len n) xs.length=min x.len n:=by omega
  simp[List.map_take,List.map_drop,this]
 simp only[e]at this;exact this
theorem aaR{b:Nat}{T:TypeId}{l xs:List Int}{x:Sl}{o n c:Nat}{K:Int->Pw}(a:av w.heap b T .u8 l)(hx:Rd w.heap x 1 (xs.map (Value.int .u8)))(ho:o+min x.len n<=l.length)
  (hk:∀w' l',l'.length=l.length->(B8 l->B8 xs->B8 l')->av w'.heap b T .u8 l'->Ext (·=b) w w'->K ((min x.len n:Nat):Int) w'):hO pz 25 25 ⟨some ⟨b,o,none⟩,n,c⟩ x.v K w:=by
 have hxl:xs.length=x.len:=by have:=hx.len;simpa using this
 exact FT a hx ho fun w' a' x'=>hk w' _ (by simp;omega) (fun h1 h2=>(h1.take o).append ((h2.take _).append (h1.drop _))) a' x'
def L9(w:Wd)(b o:Nat):Prop:=∀i:Nat,i < 256->af (Ext No w) ⟨b,o+i,none⟩ (.int .u8 (sb (i:Int)))
theorem L9.no{b o:Nat}(h:L9 w b o)(x:Ext No w w'):L9 w' b o:=fun i hi w2 x2=>h i hi w2 (x.no x2)
theorem OF{s0:List Int}{tb o:Nat}{K:List Int->Pw}(h0:cE s0)(ht:L9 w tb o)(k:∀w',Ext No w w'->K (An s0) w'):fw s0 (some ⟨tb,o,none⟩) w K:=by
 apply AH;refine fun b w1 n1 b1 w2 n2=>?_
 have s1:=n1.at_;have s2:=n2.at_;have z1:=n1.size;have x2:Ext No w w2:=n1.ext.no n2.ext
 let g:Nat->Nat->Int:=fun t i=>if i < t then sb (s0.getD i 0) else s0.getD i 0
 have e0:tab 16 (g 0)=s0:=(aQ fun i _=>by show(if i < 0 then _ else _)=_;rw[if_neg (by omega)]).trans (mR h0.1).symm;refine⟨fun m t w'=>t=16 - (m:Int)/\m<=16/\Ext No w w'/\av w'.heap b1 368 .u8 (List.replicate 16 0)/\av w'.heap b 368 .u8 (tab 16 (g t.toNat)),⟨16,by omega,by omega,x2,n2.get,by rw[show((0:Int)).toNat=0 from rfl,e0];exact(av.new n1).ext n2.ext fun h=>h⟩,?_⟩;rintro _ m t w3 ⟨TW,hm,x3,a1,a⟩;refine If.dec (fun h=>?_) fun h=>?_
 .have ev:(tab 16 (g t.toNat)).getD t.toNat 0=s0.getD t.toNat 0:=by
   rw[bH (by omega)];show(if _ then _ else _)=_;rw[if_neg (by omega)]
  have Oh:=a.held (S:=No) (fun h=>h) (t:=t) (by omega) (by rw[aB];omega);rw[ev]at Oh;have hv:=h0.2.get t.toNat;have hvc:=(ht.no x3) (s0.getD t.toNat 0).toNat (by omega);rw[Int.toNat_of_nonneg hv.1]at hvc;refine⟨Ext No w3,(Ext.refl _ _).drew,by omega,by omega,_,Oh,Nn.mk ⟨hv.1,by omega,sb (s0.getD t.toNat 0),?_,by omega,by omega,?_⟩⟩
  .rw[ay rfl];show af (Ext No w3) ⟨tb,o+(s0.getD t.toNat 0).toNat * 1,none⟩ _;rw[Nat.mul_one];exact hvc
  .have a':av (aa w3).heap b 368 .u8 (tab 16 (g t.toNat)):=a;have lt:=x3.size;refine a'.st (by omega) (by rw[aB];omega) fun w4 a4 x4=>Ar.i64 (by omega) ⟨m - 1,by omega,by omega,by omega,x3.drew.out x4 (by omega),?_,?_⟩
   .exact(show av (aa w3).heap b1 368 .u8 _ from a1).ext x4 (by omega)
   .rw[eB (g:=g (t+1).toNat)]at a4
    .exact a4
    .intro j _;show(if _ then _ else if _ then _ else _)=if _ then _ else _
     by_cases hj:j=t.toNat
     .rw[if_pos hj,if_pos (by omega),hj]
     .rw[if_neg hj];by_cases h2:j < t.toNat
      .rw[if_pos h2,if_pos (by omega)]
      .rw[if_neg h2,if_neg (by omega)]
 .have e:tab 16 (g t.toNat)=An s0:=aQ fun i hi=>by show(if _ then _ else _)=_;rw[if_pos (by omega)]
  rw[e]at a;exact qO a a1 (aB _ _) (by simp) fun w' x'=>k w' (x3.out x' (by omega))
theorem Hu{s0:List Int}{K:List Int->Pw}(h0:cE s0)(k:∀w',Ext No w w'->K (IN s0) w'):dL s0 (.func (.func 271) #[] #[]) w K:=by
 apply vH;refine fun b w1 n1 b1 w2 n2=>?_
 have s1:=n1.at_;have s2:=n2.at_;have z1:=n1.size;have x2:Ext No w w2:=n1.ext.no n2.ext
 let g:Nat->Nat->Int:=fun t i=>if i < t then cf (dG s0 (i / 4)) (i % 4) else s0.getD i 0
 have e0:tab 16 (g 0)=s0:=(aQ fun i _=>by show(if i < 0 then _ else _)=_;rw[if_neg (by omega)]).trans (mR h0.1).symm;refine⟨fun m t w'=>t=16 - 4 * (m:Int)/\m<=4/\Ext No w w'/\av w'.heap b1 368 .u8 (List.replicate 16 0)/\av w'.heap b 368 .u8 (tab 16 (g t.toNat)),⟨4,by omega,by omega,x2,n2.get,by rw[show((0:Int)).toNat=0 from rfl,e0];exact(av.new n1).ext n2.ext fun h=>h⟩,?_⟩;rintro _ m t w3 ⟨TW,hm,x3,a1,a⟩;refine If.dec (fun h=>?_) fun h=>?_
 .refine Ar.i64 (by omega) (Cut.arr (by omega) (by omega) (by omega) (by omega) ⟨by show 4<=(t+4 - t).toNat;omega,Nn.mk ?_⟩)
  obtain⟨q,hq,hq4⟩ : ∃q:Nat,t.toNat=4 * q/\q < 4:=⟨4 - m,by omega,by omega⟩
  have ev:∀j,j < 4->(tab 16 (g t.toNat)).getD (t.toNat+j) 0=s0.getD (4 * q+j) 0:=fun j hj=>by
   rw[bH (by omega)];show(if _ then _ else _)=_;rw[if_neg (by omega),hq]
  have hB:∀j,By (s0.getD j 0):=fun j=>h0.2.get j
  have c0:=a.wg (i:=t.toNat+0) (by rw[aB];omega);have c1:=a.FR (o:=t.toNat) (j:=1) (by rw[aB];omega);have c2:=a.FR (o:=t.toNat) (j:=2) (by rw[aB];omega);have c3:=a.FR (o:=t.toNat) (j:=3) (by rw[aB];omega);rw[ev 0 (by decide)]at c0;rw[ev 1 (by decide)]at c1;rw[ev 2 (by decide)]at c2;rw[ev 3 (by decide)]at c3;refine⟨_,c0,_,c1,_,c2,_,c3,GR (QX ?_ fun w4 x4=>?_)⟩
  .exact(B8.nil.cons (hB _)).cons (hB _) |>.cons (hB _) |>.cons (hB _)
  refine fun b2 w5 n5=>⟨rfl,av.oH (l':=[cf (dG s0 q) 0,cf (dG s0 q) 1,cf (dG s0 q) 2,cf (dG s0 q) 3]) (l:=[0,0,0,0]) n5.get rfl fun w6 a6 x6=>?_⟩
  have TY:=x3.size;have JK:=x4.size;have s5:=n5.at_;have z5:=n5.size;have x5:Ext No w w5:=(x3.no x4).no n5.ext;have x6':Ext No w w6:=x5.out x6 (by omega);have ltb:=a.lt;have ac5:=a1.lt;have ab:av w6.heap b 368 .u8 (tab 16 (g t.toNat)):=((a.ext x4 fun h=>h).ext n5.ext fun h=>h).ext x6 (by omega);have ab1:av w6.heap b1 368 .u8 (List.replicate 16 0):=((a1.ext x4 fun h=>h).ext n5.ext fun h=>h).ext x6 (by omega);refine⟨Ext (·=b) w6,(Ext.refl _ _).drew,Cut.arr (by omega) (by omega) (by omega) (by omega) (Cut.arr (by decide) (by decide) (by decide) (by decide) ?_)⟩;have abd:av (aa w6).heap b 368 .u8 (tab 16 (g t.toNat)):=ab;have ad:av (aa w6).heap b2 275 .u8 [cf (dG s0 q) 0,cf (dG s0 q) 1,cf (dG s0 q) 2,cf (dG s0 q) 3]:=a6;have em:min (4 - 0:Int).toNat ((16:Int) - t).toNat=4:=by omega
  refine FT (xs:=[cf (dG s0 q) 0,cf (dG s0 q) 1,cf (dG s0 q) 2,cf (dG s0 q) 3]) abd (ad.rd (o:=0) (n:=4) (c:=4) (by simp) (Nat.le_refl 4)) (by rw[aB];show t.toNat+min 4 (16 - t).toNat<=_;omega) fun w7 a7 x7=>?_
  have lt6:=x6'.size;refine⟨x7.ae,Ar.i64 (by omega) ⟨m - 1,by omega,by omega,by omega,x6'.drew.out x7 (by omega),(show av (aa w6).heap b1 368 .u8 _ from ab1).ext x7 (by omega),?_⟩⟩;have em2:min 4 ((16:Nat) - t).toNat=4:=by omega
  have e:(tab 16 (g t.toNat)).take t.toNat++([cf (dG s0 q) 0,cf (dG s0 q) 1,cf (dG s0 q) 2,cf (dG s0 q) 3]++(tab 16 (g t.toNat)).drop (t.toNat+4))=tab 16 (g (t+4).toNat):=by
   have hle:t.toNat+[cf (dG s0 q) 0,cf (dG s0 q) 1,cf (dG s0 q) 2,cf (dG s0 q) 3].length<=(tab 16 (g t.toNat)).length:=by rw[aB];show t.toNat+4<=16;omega
   refine fW (by rw[aB];exact(Ht hle).trans (aB _ _)) fun i hi=>?_
   have TZ:i < 16:=Nat.lt_of_lt_of_eq hi ((Ht hle).trans (aB _ _));refine(JL hle i).trans ?_;rw[bH TZ,bH TZ];show(if _ then(if _ then _ else _) else if i < t.toNat+4 then _ else if _ then _ else _)=if _ then _ else _
   by_cases h1:i < t.toNat
   .rw[if_pos h1,if_pos h1,if_pos (by omega)]
   .rw[if_neg h1];by_cases h2:i < t.toNat+4
    .rw[if_pos h2,if_pos (by omega),show i / 4=q by omega];have:i - t.toNat=i % 4:=by omega
     rw[this];have h4:i % 4=0∨i % 4=1∨i % 4=2∨i % 4=3:=by omega
     rcases h4 with h | h | h | h <;> rw[h] <;> rfl
    .rw[if_neg h2,if_neg h1,if_neg (by omega)]
  have a7':av w7.heap b 368 .u8 ((tab 16 (g t.toNat)).take t.toNat++(List.take (min 4 ((16:Nat) - t).toNat) [cf (dG s0 q) 0,cf (dG s0 q) 1,cf (dG s0 q) 2,cf (dG s0 q) 3]++(tab 16 (g t.toNat)).drop (t.toNat+min 4 ((16:Nat) - t).toNat))):=a7;rw[em2]at a7';rw[<- e];exact a7'
 .have e:tab 16 (g t.toNat)=IN s0:=aQ fun i hi=>by show(if _ then _ else _)=_;rw[if_pos (by omega)]
  rw[e]at a;exact qO a a1 (aB _ _) (by simp) fun w' x'=>k w' (x3.out x' (by omega))
end
end Go.Proofs.YtefdekemmnnclaaGreat
namespace Go.V
section
variable {w w':Wd} {s:Sl} {ks:IntKind} {l:List Int}
theorem Rd.ac6(r:Rd w.heap s 1 (l.map (Value.int ks))){lo hi:Int}{K:Sl->Prop}(h0:0<=lo)(h1:lo < hi)(h2:hi<=(s.len:Int))
  (hk:∀b o c,(∀j:Nat,(j:Int) < hi - lo->Cell w ⟨b,o+j,none⟩ (.int ks (l.getD (lo.toNat+j) 0)))->K ⟨some ⟨b,o,none⟩,(hi - lo).toNat,c⟩):Cut s lo hi (((s.cap:Nat):Int)) 1 K:=by
 have hl:l.length=s.len:=by have:=r.len;simpa using this
 have jB:=r.cap
 have dz:l.map (Value.int ks)≠[]:=fun e=>by
  have:=congrArg List.length e;simp at this;subst this;simp at hl;omega
 obtain⟨b,off,ha,hc⟩:=r.at_ dz;refine Cut.mk h0 (by omega) (by omega) (Int.le_refl _) ?_
 have e:gX s.a ((s.cap:Int)).toNat lo.toNat 1=some ⟨b,off+lo.toNat,none⟩:=by
  unfold gX;rw[if_neg (by simp;omega),ha];simp[ay]
 simp only[e];refine hk b _ _ fun j hj=>Cell.mk ?_
 have:=hc (lo.toNat+j) (by simp;omega);rw[<- Nat.add_assoc]at this;rw[this];simp[List.getD_eq_getElem?_getD,List.getElem?_eq_getElem (show lo.toNat+j < l.length by omega)]
theorem tE.arr{T:TypeId}{k:IntKind}{sz:Nat}{zs:List Value}{bytes n:Nat}{c:Int}{K:Sl->Pw}(hz:zs=(List.replicate sz 0).map (Value.int k))(hc:c=(n:Int))(hn:bytes * n<=281474976710656)(hn2:n<=281474976710656)
    (hk:∀b w',av w'.heap b T k (List.replicate (n * sz) 0)->b=w.heap.size->Ext No w w'->w'.heap.size=w.heap.size+1->K ⟨some ⟨b,0,none⟩,n,n⟩ w'):tE w T zs bytes c c K:=by
  subst hc hz
  refine tE.mk (by omega) (Int.le_refl _) (by omega) (by have : ((bytes * n : Nat) : Int) ≤ 281474976710656 := by omega
                                                         simpa using this) fun b w' new=>?_
  have:=new.get;rw[Int.toNat_natCast]at this ⊢;refine hk b w' ?_ new.at_ new.ext new.size
  have e:(List.replicate n (List.map (Value.int k) (List.replicate sz 0))).flatten=(List.replicate (n * sz) 0).map (Value.int k):=by
    rw[List.map_replicate,List.map_replicate,List.flatten_replicate_replicate]
  rw[e]at this;exact this
end
end Go.V
namespace Go.Proofs.YtefdekemmnnclaaGreat
open Go.V
section
variable {w:Wd}
theorem L_{key:Sl}{kl:List Int}{K:Sl->Int->Pw}(hk:Rd w.heap key 1 (kl.map (Value.int .u8)))(fC:B8 kl)(hlen:key.len=16∨key.len=32)
  (k:∀b n w',n=4 * (kl.length / 4+7)->av w'.heap b 275 .u8 (c_ kl)->w.heap.size<=b->Ext No w w'->K ⟨some ⟨b,0,none⟩,n,n⟩ 0 w'):uG key w K:=by
 apply Jb;have zm:kl.length=key.len:=by have:=hk.len;simpa using this
 refine⟨fun w'=>w'=w,If.bne (fun h=>If.bne (fun h2=>by omega) fun _=>rfl) fun _=>rfl,?_⟩;rintro _ w1 rfl;obtain⟨kz,QY,hz⟩ : ∃kz:Nat,(kz=4∨kz=8)/\key.len=4 * kz:=by rcases hlen with h | h;exact⟨4,.inl rfl,h⟩;exact⟨8,.inr rfl,h⟩
 have ez:Int.tdiv ((key.len:Int)) 4=(kz:Int):=by rw[fB (by omega)];omega
 refine⟨by decide,?_⟩;rw[ez];refine Ar.i64 (by omega) (Ar.i64 (by omega) (Ar.i64 (by omega) ?_))
 obtain⟨n,hnz⟩ : ∃n:Nat,n=4 * (kz+7):=⟨4 * (kz+7),rfl⟩
 have ZH:kl.length=4 * kz:=by omega
 have ae6:=wJ ZH;have ac7:=fun {i:Nat} (hi:i < 4 * kz)=>Lr ZH hi
 have aaS:=fun {t p:Nat} (h1:kz<=t) (h2:t < 4 * (kz+7)) (hp:p < 4)=>IQ ZH (by omega) h1 h2 hp
 have wB:=vr fC;have aaT:=k;refine tE.arr (sz:=4) (k:= .u8) (n:=n) rfl (by omega) (by omega) (by omega) fun bs w2 a2 XD x2 hz2=>?_
 replace k:=fun w' (a:av w'.heap bs 275 .u8 (c_ kl)) (x:Ext No w1 w')=>aaT bs n w' (by omega) a (by omega) x
 clear aaT;generalize c_ kl=WL at *
 let Inv:Wd->Nat->Prop:=fun w' d=>Ext No w1 w'/\∃l,l.length=n * 4/\(∀i,i < d->l.getD i 0=WL.getD i 0)/\av w'.heap bs 275 .u8 l
 have iz:∀{u u':Wd}{d:Nat},Inv u d->Ext No u u'->Inv u' d:=fun h x=>⟨h.1.no x,by obtain⟨l,o1,o2,o3⟩:=h.2;exact⟨l,o1,o2,o3.ext x fun h=>h⟩⟩
 refine⟨fun m t w'=>t=(n:Int) - m/\m<=n/\Inv w' (4 * t.toNat),⟨n,by omega,Nat.le_refl _,x2,_,by simp,fun i hi=>by simp at hi,a2⟩,?_⟩;rintro _ m t w3 ⟨ht,hm,i3⟩;have i3':=i3;obtain⟨x3,l,hl,hle,al⟩:=i3;have TY:=al.lt;refine If.dec (fun h=>?_) fun h=>?_
 rotate_left
 .have e:l=WL:=fW (by omega) fun i hi=>hle i (by have h:¬ t < (n:Int):=h;omega)
  rw[e]at al;exact k w3 al x3
 have h:t < (n:Int):=h;refine If.dec (fun h2=>?_) fun h2=>?_
 .refine Ar.i64 (by omega) (Ar.i64 (by omega) (Ar.i64 (by omega) ((hk.no x3).ac6 (by omega) (by omega) (by omega) fun kb ko kc hc=>⟨by show 4<=(4 * t+4 - 4 * t).toNat;omega,Nn.mk ?_⟩)));have hc':∀j:Nat,j < 4->Cell w3 ((⟨kb,ko,none⟩ : Addr).add j) (.int .u8 (kl.getD ((4 * t).toNat+j) 0)):=fun j hj=>by rw[ay rfl];exact hc j (by omega)
  refine⟨kl.getD ((4 * t).toNat+0) 0,hc 0 (by omega),kl.getD ((4 * t).toNat+1) 0,hc' 1 (by decide),kl.getD ((4 * t).toNat+2) 0,hc' 2 (by decide),kl.getD ((4 * t).toNat+3) 0,hc' 3 (by decide),Ix.arr (by omega) (by omega) ⟨rfl,?_⟩⟩;have XE:t.toNat * 4+4<=l.length:=by rw[hl];omega
  refine al.ac4 (vs:=[kl.getD ((4 * t).toNat+0) 0,kl.getD ((4 * t).toNat+1) 0,kl.getD ((4 * t).toNat+2) 0,kl.getD ((4 * t).toNat+3) 0]) XE fun w4 a4 x4=>Ar.i64 (by omega) ⟨m - 1,by omega,by omega,by omega,x3.out x4 (by omega),_,(Ht XE).trans hl,fun i hi=>?_,a4⟩
  refine(JL (vs:=[kl.getD ((4 * t).toNat+0) 0,kl.getD ((4 * t).toNat+1) 0,kl.getD ((4 * t).toNat+2) 0,kl.getD ((4 * t).toNat+3) 0]) XE i).trans ?_;by_cases h3:i < t.toNat * 4
  .rw[if_pos h3];exact hle i (by omega)
  .rw[if_neg h3,if_pos (by show i < t.toNat * 4+4;omega),ac7 (by omega)];have h4:i=(4 * t).toNat+0∨i=(4 * t).toNat+1∨i=(4 * t).toNat+2∨i=(4 * t).toNat+3:=by omega
   have e4:t.toNat * 4=(4 * t).toNat:=by omega
   rw[e4];rcases h4 with h | h | h | h <;> rw[h]
   .rw[show(4 * t).toNat+0 - (4 * t).toNat=0 by omega];rfl
   .rw[show(4 * t).toNat+1 - (4 * t).toNat=1 by omega];rfl
   .rw[show(4 * t).toNat+2 - (4 * t).toNat=2 by omega];rfl
   .rw[show(4 * t).toNat+3 - (4 * t).toNat=3 by omega];rfl
 refine Ar.i64 (by omega) (Ix.arr (by omega) (by omega) ?_);have ev:∀j,j < 4->l.getD ((t - 1).toNat * 4+j) 0=WL.getD (4 * (t.toNat - 1)+j) 0:=fun j hj=>by rw[show(t - 1).toNat * 4+j=4 * (t.toNat - 1)+j by omega];exact hle _ (by omega)
 have c0:=al.wg (i:=(t - 1).toNat * 4+0) (by omega);have c1:=al.FR (o:=(t - 1).toNat * 4) (j:=1) (by omega);have c2:=al.FR (o:=(t - 1).toNat * 4) (j:=2) (by omega);have c3:=al.FR (o:=(t - 1).toNat * 4) (j:=3) (by omega);rw[ev 0 (by decide)]at c0;rw[ev 1 (by decide)]at c1;rw[ev 2 (by decide)]at c2;rw[ev 3 (by decide)]at c3;have Xv:By (WL.getD (4 * (t.toNat - 1)+0) 0):=wB.get _;have Vq:By (WL.getD (4 * (t.toNat - 1)+1) 0):=wB.get _;have Xw:By (WL.getD (4 * (t.toNat - 1)+2) 0):=wB.get _;have Xx:By (WL.getD (4 * (t.toNat - 1)+3) 0):=wB.get _;have gB:=fun p=>QA (k:=kz) wB t.toNat p
 have gE:∀p,gw kz WL t.toNat p=if t.toNat % kz=0 then(if p=0 then xr (sb (WL.getD (4 * (t.toNat - 1)+1) 0)) (pw 2 ((t.toNat / kz - 1:Nat):Int)) else sb (WL.getD (4 * (t.toNat - 1)+(p+1) % 4) 0))
  else if kz=8/\t.toNat % 8=4 then sb (WL.getD (4 * (t.toNat - 1)+p) 0) else WL.getD (4 * (t.toNat - 1)+p) 0:=fun p=>rfl
 have g0:=gE 0;have g1:=gE 1;have g2:=gE 2;have g3:=gE 3;clear gE;simp only[show(0+1) % 4=1 from rfl,show(1+1) % 4=2 from rfl,show(2+1) % 4=3 from rfl,show(3+1) % 4=0 from rfl,show((1:Nat)=0)=False by simp,show((2:Nat)=0)=False by simp,show((3:Nat)=0)=False by simp,if_true,if_false]at g0 g1 g2 g3;refine⟨_,c0,_,c1,_,c2,_,c3,fun b w5 n5=>⟨rfl,?_⟩⟩;have s5:=n5.at_;have z5:=n5.size;have ltx:=x3.size;generalize WL.getD (4 * (t.toNat - 1)+0) 0=q0 at *;generalize WL.getD (4 * (t.toNat - 1)+1) 0=q1 at *;generalize WL.getD (4 * (t.toNat - 1)+2) 0=q2 at *;generalize WL.getD (4 * (t.toNat - 1)+3) 0=q3 at *;refine av.oH (l':=[q0,q1,q2,q3]) (l:=[0,0,0,0]) n5.get rfl fun w6 a6 x6=>?_
 have i6:Inv w6 (4 * t.toNat):=⟨(x3.no n5.ext).out x6 (by omega),l,hl,hle,(al.ext n5.ext fun h=>h).ext x6 (by omega)⟩
 have T0:b≠bs:=by omega
 have ym:w1.heap.size<=b:=by omega
 refine⟨fun w'=>Inv w' (4 * t.toNat)/\av w'.heap b 275 .u8 [gw kz WL t.toNat 0,gw kz WL t.toNat 1,gw kz WL t.toNat 2,gw kz WL t.toNat 3],⟨by omega,?_⟩,?_⟩
 .have em:Int.tmod t (kz:Int)=((t.toNat % kz:Nat):Int):=by rw[cQ (by omega)];rcases QY with rfl | rfl <;> omega
  refine Nm.as em (If.beq (fun he=>?_) fun he=>?_)
  .have hd:Int.tdiv t (kz:Int)=t / (kz:Int):=fB (by omega);have hd3:t / (kz:Int) - 1=((t.toNat / kz - 1:Nat):Int):=by rcases QY with rfl | rfl <;> omega
   have hd2:1<=t / (kz:Int)/\t / (kz:Int)<=60:=by rcases QY with rfl | rfl <;> omega
   rw[if_pos (by omega)]at g0 g1 g2 g3;refine⟨Ext No w6,(Ext.refl _ _).drew,by decide,by decide,q1,a6.held (fun h=>h) (t:=1) (by decide) (by simp),by omega,?_⟩;rw[hd];refine Ar.i64 (by omega) (Ar.i64 (by omega) (Ar.u32 (by omega) ⟨by decide,by decide,q2,a6.held (fun h=>h) (t:=2) (by decide) (by simp),by decide,by decide,q3,a6.held (fun h=>h) (t:=3) (by decide) (by simp),by decide,by decide,q0,a6.held (fun h=>h) (t:=0) (by decide) (by simp),?_⟩))
   refine ke Vq fun w7 x7=>⟨x7.ae,DX ⟨by omega,by omega⟩ ⟨by omega,by omega⟩ ⟨x7.ae,Nm.as (br (Db Vq) (Nk _ ⟨by decide,by decide⟩)) (ke Xw fun w9 x9=>⟨x7.ae.no x9,ke Xx fun gG fo=>⟨(x7.ae.no x9).no fo,ke Xv fun hU oF=>?_⟩⟩)⟩⟩
   have T9:Ext No w6 hU:=((x7.ae.no x9).no fo).no oF;refine⟨T9,_,_,_,_,hU,uW,T9,rfl,?_⟩;have i11:=iz i6 T9
   refine av.oH (l':=[xr (sb q1) (pw 2 (t / (kz:Int) - 1)),sb q2,sb q3,sb q0]) (a6.ext T9 fun h=>h) rfl fun lK Ny mr=>⟨⟨i11.1.out mr ym,?_⟩,?_⟩
   .obtain⟨l',o1,o2,o3⟩:=i11.2;exact⟨l',o1,o2,o3.ext mr (Ne.symm T0)⟩
   .rw[g0,g1,g2,g3,<- hd3];exact Ny
  .rw[if_neg (by omega)]at g0 g1 g2 g3;refine⟨fun v w'=>w'=w6/\v=decide (kz=8/\t.toNat % 8=4),If.beq (fun h8=>⟨by decide,Nm.mk ⟨rfl,?_⟩⟩) (fun h8=>⟨rfl,?_⟩),?_⟩
   .rw[Bool.eq_iff_iff,beq_iff_eq,decide_eq_true_iff,cQ (by omega)];constructor
    .intro h9;exact⟨by omega,by omega⟩
    .intro h9;omega
   .exact(decide_eq_false (by omega)).symm
   rintro _ t1 pY ⟨rfl,rfl⟩;refine If.dec (fun h8=>?_) fun h8=>?_
   .rw[if_pos h8]at g0 g1 g2 g3;refine⟨Ext No pY,(Ext.refl _ _).drew,by decide,by decide,q0,a6.held (fun h=>h) (t:=0) (by decide) (by simp),by decide,by decide,q1,a6.held (fun h=>h) (t:=1) (by decide) (by simp),by decide,by decide,q2,a6.held (fun h=>h) (t:=2) (by decide) (by simp),by decide,by decide,q3,a6.held (fun h=>h) (t:=3) (by decide) (by simp),?_⟩
    refine ke Xv fun w7 x7=>⟨x7.ae,ke Vq fun w9 x9=>⟨x7.ae.no x9,ke Xw fun gG fo=>⟨(x7.ae.no x9).no fo,ke Xx fun hU oF=>?_⟩⟩⟩
    have T9:Ext No pY hU:=((x7.ae.no x9).no fo).no oF;refine⟨T9,_,_,_,_,hU,uW,T9,rfl,?_⟩;have i11:=iz i6 T9
    refine av.oH (l':=[sb q0,sb q1,sb q2,sb q3]) (a6.ext T9 fun h=>h) rfl fun lK Ny mr=>⟨⟨i11.1.out mr ym,?_⟩,?_⟩
    .obtain⟨l',o1,o2,o3⟩:=i11.2;exact⟨l',o1,o2,o3.ext mr (Ne.symm T0)⟩
    .rw[g0,g1,g2,g3];exact Ny
   .rw[if_neg h8]at g0 g1 g2 g3;rw[g0,g1,g2,g3];exact⟨i6,a6⟩
 .rintro _ zn ⟨i21,aq⟩;clear g0 g1 g2 g3
  have gv:∀p,p < 4->[gw kz WL t.toNat 0,gw kz WL t.toNat 1,gw kz WL t.toNat 2,gw kz WL t.toNat 3].getD p 0=gw kz WL t.toNat p:=fun p hp=>by
   have h4:p=0∨p=1∨p=2∨p=3:=by omega
   rcases h4 with rfl | rfl | rfl | rfl <;> rfl
  refine⟨fun m' t' w'=>t'=4 - (m':Int)/\m'<=4/\Inv w' (4 * t.toNat+t'.toNat)/\av w'.heap b 275 .u8 [gw kz WL t.toNat 0,gw kz WL t.toNat 1,gw kz WL t.toNat 2,gw kz WL t.toNat 3],⟨4,by omega,by omega,i21,aq⟩,?_⟩;rintro _ m2 t2 FU ⟨ht2,KV,i22,aq2⟩;refine If.dec (fun h3=>?_) fun h3=>Ar.i64 (by omega) ⟨m - 1,by omega,by omega,by omega,by rw[show 4 * (t+1).toNat=4 * t.toNat+t2.toNat by omega];exact i22⟩
  obtain⟨Ih,l2,XF,aaU,XG⟩:=i22;have e1:∀i:Int,0<=i->i < n->i.toNat * 4+t2.toNat < l2.length:=fun i h1 h2=>by omega
  have hq:=aq2.held (S:=No) (fun h=>h) (t:=t2) (by omega) (by show t2 < 4;omega);rw[gv _ (by omega)]at hq;have Ma:=XG.DY (S:=No) (fun h=>h) (o:=(t - (kz:Int)).toNat * 4) (j:=t2.toNat * 1) (by have:=e1 (t - kz) (by omega) (by omega);omega);have Hv:(t - (kz:Int)).toNat * 4+t2.toNat * 1=4 * (t.toNat - kz)+t2.toNat:=by omega
  rw[Hv,aaU _ (by omega)]at Ma;refine⟨Ext No FU,(Ext.refl _ _).drew,by omega,by omega,_,hq,Ar.i64 (by omega) (Ix.arr (by omega) (by omega) ⟨by omega,by omega,_,Ma,Nm.as (br (gB _) (wB.get _)) (Ix.arr (by omega) (by omega) ⟨by omega,by omega,?_⟩)⟩)⟩;have ad:av (aa FU).heap bs 275 .u8 l2:=XG;have ae7:=Ih.size;have ae8:=XG.lt;have aV:=e1 t (by omega) (by omega);rw[ay rfl];refine av.Ls ad (by show t.toNat * 4+t2.toNat * 1 < _;omega) fun Nz a23 xI=>?_
  have xI:Ext (fun i=>i=bs) (aa FU) Nz:=xI;refine Ar.i64 (by omega) ⟨m2 - 1,by omega,by omega,by omega,⟨Ih.drew.out xI (by omega),_,by simpa using XF,fun i hi=>?_,a23⟩,(show av (aa FU).heap b 275 .u8 _ from aq2).ext xI T0⟩;rw[qp _ _ _ _ (by omega)];by_cases h4:i=t.toNat * 4+t2.toNat * 1
  .rw[if_pos h4,h4,show t.toNat * 4+t2.toNat * 1=4 * t.toNat+t2.toNat by omega];exact(aaS (t:=t.toNat) (p:=t2.toNat) (by omega) (by omega) (by omega)).symm
  .rw[if_neg h4];exact aaU i (by omega)
end
end Go.Proofs.YtefdekemmnnclaaGreat
namespace Go.V
section
variable {w w':Wd} {s:Sl} {ks:IntKind} {l:List Int} {sz:Nat}
theorem Rd.qP(r:Rd w.heap s sz (l.map (Value.int ks))){lo hi:Int}{K:Sl->Prop}(h0:0<=lo)(h1:lo<=hi)(h2:hi<=(s.len:Int))
  (hk:∀s',Rd w.heap s' sz (((l.drop (lo.toNat * sz)).take ((hi - lo).toNat * sz)).map (Value.int ks))->s'.len=(hi - lo).toNat->K s'):Cut s lo hi (((s.cap:Nat):Int)) sz K:=by
 have jB:=r.cap;refine Cut.mk h0 h1 (by omega) (Int.le_refl _) (hk _ ?_ rfl);have:=r.cut (lo:=lo.toNat) (hi:=hi.toNat) (mx:=s.cap) (by omega) (by omega) (by omega);have e1:hi.toNat - lo.toNat=(hi - lo).toNat:=by omega
 have e2:s.cap - lo.toNat=((s.cap:Int) - lo).toNat:=by omega
 rw[e1,e2]at this;simpa[List.map_take,List.map_drop] using this
theorem av.rdN{b n:Nat}{T:TypeId}(a:av w.heap b T ks l)(h:l.length=n * sz):Rd w.heap ⟨some ⟨b,0,none⟩,n,n⟩ sz (l.map (Value.int ks)):=by
 refine⟨by simpa using h,Nat.le_refl _,fun _=>⟨b,0,rfl,fun i hi=>?_⟩,fun v hv=>cZ v hv⟩;have iS:i < l.length:=by simpa using hi
 have:=a.wg iS;unfold Cell at this;rw[dC]at this;rw[Nat.zero_add,this];simp[List.getD_eq_getElem?_getD,List.getElem?_eq_getElem iS]
end
end Go.V
namespace Go.Proofs.YtefdekemmnnclaaGreat
open Go.V
def JM(w:Wd)(c:Nat)(kl:List Int):Prop:=∃(bs n:Nat) (EG:List Int),n=4 * (kl.length / 4+7)/\(kl.length=16∨kl.length=32)/\B8 kl/\EG.length=512/\(∀i:Nat,i < 256->EG.getD i 0=sb (i:Int))/\av w.heap bs 275 .u8 (c_ kl)/\w.heap[c]? = some (.cells (Value.slice (some ⟨bs,0,none⟩) n n::EG.map (Value.int .u8)).toArray 367 (0,0))
def Hw(w:Wd)(c:Nat):Prop:=∃kl,JM w c kl
theorem JN{s w:List Int}{j:Nat}:qq s ((w.drop (16 * j)).take 16) 0=qq s w j:=aQ fun i hi=>by
 congr 1;simp only[List.getD_eq_getElem?_getD];rw[List.getElem?_take_of_lt (by omega),List.getElem?_drop];congr 2;omega
section
variable {w w':Wd}
theorem JM.no{c:Nat}{kl:List Int}(h:JM w c kl)(x:Ext No w w'):JM w' c kl:=by
 obtain⟨bs,n,EG,h1,h2,h3,h4,h5,h6,h7⟩:=h;exact⟨bs,n,EG,h1,h2,h3,h4,h5,h6.ext x fun h=>h,by rw[x.au c (Array.getElem?_eq_some_iff.1 h7).1 fun h=>h];exact h7⟩
theorem Hw.no{c:Nat}(h:Hw w c)(x:Ext No w w'):Hw w' c:=by
 obtain⟨kl,h⟩:=h;exact⟨kl,h.no x⟩
theorem Vt{b o:Nat}{v:Value}{T:TypeId}{EG:List Int}{z:Int}{K:Pw}(h:w.heap[b]? = some (.cells (v::EG.map (Value.int .u8)).toArray T (0,0)))(ho:o < EG.length)
  (hk:∀w',w'.heap[b]? = some (.cells (v::(EG.set o z).map (Value.int .u8)).toArray T (0,0))->Ext (·=b) w w'->K w'):aH w ⟨b,o+1,none⟩ (.int .u8 z) K:=by
 refine aH.mk (cs:=v::EG.map (Value.int .u8)) h (by simp;omega) rfl fun w' hw=>hk w' ?_ hw.ext
 have:=hw.get h
 rwa [List.set_cons_succ,<- List.map_set]at this
theorem JM.tab{c:Nat}{kl:List Int}(h:JM w c kl):L9 w c 1:=by
 obtain⟨bs,n,EG,h1,h2,h3,h4,h5,h6,h7⟩:=h;intro i hi;rw[<- h5 i hi];refine af.cell (Cell.ah h7 ?_);rw[Nat.add_comm,List.getElem?_cons_succ,List.getElem?_map,List.getElem?_eq_getElem (show i < EG.length by omega)];simp[List.getD_eq_getElem?_getD,List.getElem?_eq_getElem (show i < EG.length by omega)]
theorem zo{key:Sl}{kl:List Int}{K:Option Addr->Int->Pw}(hk:Rd w.heap key 1 (kl.map (Value.int .u8)))(fC:B8 kl)(hlen:key.len=16∨key.len=32)
  (k:∀c w',JM w' c kl->w.heap.size<=c->Ext No w w'->K (some ⟨c,0,none⟩) 0 w'):lD key w K:=by
 apply Oy;have zm:kl.length=key.len:=by have:=hk.len;simpa using this
 refine L_ hk fC hlen fun bs n w1 hn a XD x1=>If.bne (fun h=>absurd rfl h) fun _=>?_
 refine fun b w2 n2=>?_
 have s2:=n2.at_;have z2:=n2.size;have ZG:=x1.size;have ltb:=a.lt
 refine⟨fun m t w'=>t=256 - (m:Int)/\m<=256/\Ext No w w'/\av w'.heap bs 275 .u8 (c_ kl)/\∃EG,EG.length=512/\(∀i:Nat,i < t.toNat->EG.getD i 0=sb (i:Int))/\w'.heap[b]? = some (.cells (Value.slice (some ⟨bs,0,none⟩) n n::EG.map (Value.int .u8)).toArray 367 (0,0)),
  ⟨256,by omega,by omega,x1.no n2.ext,a.ext n2.ext fun h=>h,List.replicate 512 0,by simp,fun i hi=>by simp at hi,by have:=n2.get;rw[List.map_replicate];exact this⟩,?_⟩
 rintro _ m t w3 ⟨ht,hm,x3,a3,EG,KW,NA,ht3⟩;refine If.dec (fun h=>?_) fun h=>k b w3 ⟨bs,n,EG,hn,by omega,fC,KW,fun i hi=>NA i (by omega),a3,ht3⟩ (by omega) x3
 have hr:By (sb t):=Db ⟨by omega,by omega⟩
 refine Ar.u8 (by omega) (ke ⟨by omega,by omega⟩ fun w4 x4=>Nn.mk ⟨by omega,by omega,?_⟩);have aaV:bs≠b:=by omega
 have TY:=x3.size;have JK:=x4.size;have ht4:w4.heap[b]? = some (.cells (Value.slice (some ⟨bs,0,none⟩) n n::EG.map (Value.int .u8)).toArray 367 (0,0)):=by rw[x4.au b (Array.getElem?_eq_some_iff.1 ht3).1 fun h=>h];exact ht3
 rw[ay rfl];show aH w4 ⟨b,0+1+t.toNat * 1,none⟩ _ _;rw[show 0+1+t.toNat * 1=t.toNat+1 by omega];refine Vt ht4 (by omega) fun w5 ht5 x5=>Ar.u8 (by omega) (Nn.mk ⟨hr.1,by have:=hr.2;omega,?_⟩)
 rw[ay rfl];show aH w5 ⟨b,0+257+(sb t).toNat * 1,none⟩ _ _;rw[show 0+257+(sb t).toNat * 1=(256+(sb t).toNat)+1 by omega];have:=hr.1;have:=hr.2;refine Vt ht5 (by simp;omega) fun w6 ht6 x6=>Ar.i64 (by omega) ⟨m - 1,by omega,by omega,by omega,((x3.no x4).out x5 (by omega)).out x6 (by omega),((a3.ext x4 fun h=>h).ext x5 aaV).ext x6 aaV,_,by simpa using KW,fun i hi=>?_,ht6⟩
 rw[qp _ _ _ _ (by simp;omega),if_neg (by omega),qp _ _ _ _ (by omega)];by_cases h2:i=t.toNat
 .rw[if_pos h2];congr 1;omega
 .rw[if_neg h2];exact NA i (by omega)
theorem uY{key:Sl}{kl:List Int}{K:Option Addr->Int->Pw}(hk:Rd w.heap key 1 (kl.map (Value.int .u8)))(fC:B8 kl)(hlen:key.len=16∨key.len=32)
  (k:∀c w',Hw w' c->w.heap.size<=c->Ext No w w'->K (some ⟨c,0,none⟩) 0 w'):lD key w K:=
 zo hk fC hlen fun c w' h=>k c w' ⟨_,h⟩
theorem JO{cb b1 b2:Nat}{R:Int}{b0 wl:List Int}{K:List Int->Int->Pw}(w0:Wd)(hc:L9 w0 cb 1)(hR:∃bs n:Nat,(n:Int)=4 * (R+1)/\1<=R/\R<=20/\wl.length=n * 4/\av w0.heap bs 275 .u8 wl/\af (Ext No w0) ⟨cb,0,none⟩ (.slice (some ⟨bs,0,none⟩) n n))
  (x:Ext No w0 w) (h1:w0.heap.size<=b1) (h2:w0.heap.size<=b2) (hb:b1≠b2) (hb0:B8 b0) (OG:B8 wl) (a:av w.heap b2 368 .u8 (qq b0 wl 0)) (a1:av w.heap b1 166 .u8 (List.replicate 16 0)) (k:∀w',Ext No w0 w'->K (Gw wl R.toNat b0) 0 w') :
  ∃I0:Nat->Int->Pw,(∃m,I0 m 1 w)/\∀(_:Env)(m0:Nat)(j:Int)(w8:Wd),I0 m0 j w8->
  If (decide (j<=R)) (
  ∃S:Pw,S (aa w8)/\
  ∃l_3:List Int,l_3.length=16/\bu (af S) (Addr.mk b2 0 none) 0 .u8 l_3/\
  Nn (some ⟨cb,0,none⟩) fun a_2=>
  fw l_3 (some (a_2.add 1)) (aa w8) fun ac8 w9=>
  S w9/\
  eR ac8 1 w9 fun aaW gG=>
  S gG/\
  List.length (α:=Value) (List.map (Value.int .u8) aaW++[])=16/\cr gG (Addr.mk b2 0 none) (List.map (Value.int .u8) aaW++[]) fun hU=>
  ∃J0:Pw,(
  If (decide (j < R)) (
  ∃l_4:List Int,l_4.length=16/\bu (Cell hU) (Addr.mk b2 0 none) 0 .u8 l_4/\
  dL l_4 (.func (.func 271) #[] #[]) hU fun aaX mw=>
  List.length (α:=Value) (List.map (Value.int .u8) aaX++[])=16/\cr mw (Addr.mk b2 0 none) (List.map (Value.int .u8) aaX++[]) fun lK=>
  J0 lK) (
  J0 hU))/\∀(_:Env)(pY:Wd),J0 pY->
  ∃S:Pw,S (aa pY)/\
  ∃l_5:List Int,l_5.length=16/\bu (af S) (Addr.mk b2 0 none) 0 .u8 l_5/\
  Nn (some ⟨cb,0,none⟩) fun a_3=>
  ∃Ca:Sl,af S a_3 (.slice Ca.a Ca.len Ca.cap)/\
  Ar .i64 (4 * j) fun z_2=>
  Ar .i64 (4 * j) fun z_3=>
  Ar .i64 (z_3+4) fun z_4=>
  Cut Ca z_2 z_4 (((Ca.cap:Nat):Int)) 4 fun s_1=>
  dJ l_5 s_1 (aa pY) fun aaY kQ=>
  S kQ/\
  List.length (α:=Value) (List.map (Value.int .u8) aaY++[])=16/\cr kQ (Addr.mk b2 0 none) (List.map (Value.int .u8) aaY++[]) fun ua=>
  Ar .i64 (j+1) fun z_5=>
  ∃m1,m1 < m0/\I0 m1 z_5 ua) (
  ∃l_6:List Int,l_6.length=16/\bu (Cell w8) (Addr.mk b2 0 none) 0 .u8 l_6/\
  List.length (α:=Value) (List.map (Value.int .u8) l_6++[])=16/\cr w8 (Addr.mk b1 0 none) (List.map (Value.int .u8) l_6++[]) fun rD=>
  ∃l_7:List Int,l_7.length=16/\bu (Cell rD) (Addr.mk b1 0 none) 0 .u8 l_7/\
  iC .u8 16 (List.map (Value.int .u8) l_7++[]) fun l_8 ac9=>eo [] ac9 (K l_8) fun ada=>
  ada 0 rD):=by
 obtain⟨bs,n,hn,hR1,hR2,adb,hw,hh⟩:=hR
 let Inv:Wd->List Int->Prop:=fun w' l=>Ext No w0 w'/\av w'.heap b1 166 .u8 (List.replicate 16 0)/\l.length=16/\av w'.heap b2 368 .u8 l
 have st:∀{u u':Wd}{l q:List Int}{K':Pw},Inv u l->Ext No u u'->q.length=16->(∀u2,Inv u2 q->K' u2)->List.length (α:=Value) (List.map (Value.int .u8) q++[])=16/\cr u' (Addr.mk b2 0 none) (List.map (Value.int .u8) q++[]) K':=fun {u u' l q K'} h x hq hk=>by
  obtain⟨h1',XH,h3',h4'⟩:=h;refine⟨by rw[List.append_nil,List.length_map];exact hq,(h4'.ext x fun h=>h).oH (by rw[hq,h3']) fun u3 a3 x3=>hk u3 ⟨(h1'.no x).out x3 h2,(XH.ext x fun h=>h).ext x3 hb,hq,a3⟩⟩
 refine⟨fun m t w'=>t=R+1 - (m:Int)/\m<=R.toNat/\Inv w' (yp wl R.toNat b0 (t.toNat - 1)),⟨R.toNat,by omega,Nat.le_refl _,x,a1,(iO hb0 OG 0).1,a⟩,?_⟩;rintro _ m t w8 ⟨ht,hm,i8⟩;have i8':=i8;have EH:=CE (last:=R.toNat) hb0 OG (t.toNat - 1);obtain⟨x8,ZI,_,a8⟩:=i8;refine If.dec (fun h=>?_) fun h=>?_
 .have ee:yp wl R.toNat b0 ((t+1).toNat - 1)=On wl R.toNat (yp wl R.toNat b0 (t.toNat - 1)) t.toNat:=by
   obtain⟨j,hj⟩ : ∃j,t.toNat=j+1:=⟨t.toNat - 1,by omega⟩
   rw[show(t+1).toNat - 1=j+1 by omega,hj];rfl
  generalize yp wl R.toNat b0 (t.toNat - 1)=l8 at *;refine⟨Ext No w8,(Ext.refl _ _).drew,l8,EH.1,a8.IT fun h=>h,Nn.mk (OF (tb:=cb) (o:=1) EH (L9.no hc x8.drew) fun w9 x9=>⟨x9.ae,L8 (CD EH.2) fun gG fo=>⟨x9.ae.no fo,?_⟩⟩)⟩;have FV:=Lq (CD EH.2).2;refine st (u:=w8) i8' (x9.ae.no fo) FV.1 fun hU i11=>?_
  refine⟨fun w'=>Inv w' (if t.toNat < R.toNat then IN (Nl (An l8)) else Nl (An l8)),If.dec (fun ht2=>⟨_,FV.1,i11.2.2.2.row,Hu FV fun mw gV=>st i11 gV (vq _).1 fun lK i13=>by rw[if_pos (by omega)];exact i13⟩) fun ht2=>by rw[if_neg (by omega)];exact i11,?_⟩;rintro _ pY i14
  have XI:cE (if t.toNat < R.toNat then IN (Nl (An l8)) else Nl (An l8)):=by
   split
   .exact vq _
   .exact FV
  have ade:=i14;obtain⟨mJ,ae9,_,S9⟩:=i14;refine⟨Ext No pY,(Ext.refl _ _).drew,_,XI.1,S9.IT fun h=>h,Nn.mk ⟨⟨some ⟨bs,0,none⟩,n,n⟩,fun u hu=>hh u (mJ.no hu),Ar.i64 (by omega) (Ar.i64 (by omega) (Ar.i64 (by omega) ?_))⟩⟩
  have ZJ:av (aa pY).heap bs 275 .u8 wl:=(hw.ext mJ.drew fun h=>h)
  refine(ZJ.rdN adb).qP (by omega) (by omega) (by show 4 * t+4<=(n:Int);omega) fun s' Ic pA=>?_
  have T_:(wl.drop ((4 * t).toNat * 4)).take ((4 * t+4 - 4 * t).toNat * 4)=(wl.drop (16 * t.toNat)).take 16:=by
   rw[show(4 * t).toNat * 4=16 * t.toNat by omega,show(4 * t+4 - 4 * t).toNat * 4=16 by omega]
  rw[T_]at Ic
  refine uX XI ((OG.drop _).take _) Ic (by rw[pA];simp;omega) (by omega) fun kQ gH=>⟨gH.ae,?_⟩
  rw[JN];exact st ade gH.ae (iO XI.2 OG _).1 fun ua i16=>Ar.i64 (by omega) ⟨m - 1,by omega,by omega,by omega,by rw[ee];exact i16⟩
 .have e:yp wl R.toNat b0 (t.toNat - 1)=Gw wl R.toNat b0:=by unfold Gw;congr 1;omega
  rw[e]at a8 EH;refine⟨_,EH.1,a8.row,by rw[List.append_nil,List.length_map];exact EH.1,ZI.oH (by rw[EH.1];simp) fun rD KX zq=>⟨_,EH.1,KX.row,iC.mk EH.1 (k rD (x8.out zq h1))⟩⟩
def oP(kl b:List Int):List Int:=Gw (c_ kl) (kl.length / 4+6) b
theorem np{kl b:List Int}(hk:B8 kl)(hb:B8 b):cE (oP kl b):=TG hb (vr hk)
theorem pZ{cb:Nat}{b0 kl:List Int}{K:List Int->Int->Pw}(hc:JM w cb kl)(hb:cE b0)(k:∀w',Ext No w w'->K (oP kl b0) 0 w'):bF (some ⟨cb,0,none⟩) b0 w K:=by
 apply uO;refine fun b w1 n1 b1 w2 n2=>If.no (Nn.mk ?_)
 have s1:=n1.at_;have s2:=n2.at_;have z1:=n1.size;have z2:=n2.size;have x2:Ext No w w2:=n1.ext.no n2.ext;have aaZ:=hc.tab;obtain⟨bs,n,EG,hn,zm,fC,h3,h4,ZK,h60⟩:=hc
 obtain⟨kz,QY⟩ : ∃kz,kl.length=4 * kz:=⟨kl.length / 4,by omega⟩
 have OG:(c_ kl).length=n * 4:=by rw[wJ QY];omega
 have Ig:=vr fC;have hw:av w2.heap bs 275 .u8 (c_ kl):=ZK.ext x2 fun h=>h
 have h6:w2.heap[cb]? = some (.cells (Value.slice (some ⟨bs,0,none⟩) n n::EG.map (Value.int .u8)).toArray 367 (0,0)):=by rw[x2.au cb (Array.getElem?_eq_some_iff.1 h60).1 fun h=>h];exact h60
 have hh:af (Ext No w2) ⟨cb,0,none⟩ (.slice (some ⟨bs,0,none⟩) n n):=af.cell (Cell.ah h6 rfl);have e4:Int.tdiv ((n:Int)) 4=(n:Int) / 4:=fB (by omega);have ek:oP kl b0=Gw (c_ kl) ((n:Int) / 4 - 1).toNat b0:=by unfold oP;congr 1;omega
 rw[ek]at k;refine⟨⟨some ⟨bs,0,none⟩,n,n⟩,Cell.ah h6 rfl,by decide,?_⟩;show Ar .i64 (Int.tdiv ((n:Int)) 4) _;rw[e4];have a0:av w2.heap b 166 .u8 b0:=(av.new n1).ext n2.ext fun h=>h
 have a1:av w2.heap b1 166 .u8 (List.replicate 16 0):=n2.get;refine Ar.i64 (by omega) (Ar.i64 (by omega) ⟨Ext No w2,(Ext.refl _ _).drew,b0,hb.1,a0.IT (fun h=>h),Nn.mk ⟨⟨some ⟨bs,0,none⟩,n,n⟩,hh,?_⟩⟩);have ZJ:av (aa w2).heap bs 275 .u8 (c_ kl):=hw;refine(ZJ.rdN OG).qP (by decide) (by decide) (by show(4:Int)<=(n:Int);omega) fun s' Ic pA=>?_
 have ZG:=a1.lt
 have hR1:∃bs n':Nat,(n':Int)=4 * (((n:Int) / 4 - 1)+1)/\1<=(n:Int) / 4 - 1/\(n:Int) / 4 - 1<=20/\(c_ kl).length=n' * 4/\av w.heap bs 275 .u8 (c_ kl)/\af (Ext No w) ⟨cb,0,none⟩ (.slice (some ⟨bs,0,none⟩) n' n'):=⟨bs,n,by omega,by omega,by omega,OG,ZK,af.cell (Cell.ah h60 rfl)⟩
 generalize c_ kl=wl at *;have Vv:B8 ((wl.drop ((0:Int).toNat * 4)).take ((4 - 0:Int).toNat * 4)):=(Ig.drop _).take _;have T_:qq b0 ((wl.drop ((0:Int).toNat * 4)).take ((4 - 0:Int).toNat * 4)) 0=qq b0 wl 0:=JN (j:=0);have hq:=(iO hb.2 Ig 0).1;constructor
 .refine uX hb Vv Ic (by rw[pA];simp;omega) (by rw[pA];decide) fun w5 x5=>⟨x5.ae,fun b2 w6 n6=>⟨x5.ae.no n6.ext,?_⟩⟩
  rw[T_];refine⟨by rw[List.append_nil,List.length_map];exact hq,?_⟩;have s6:=n6.at_;have lt5:=x5.size;have e5:(aa w2).heap.size=w2.heap.size:=rfl;refine av.oH (l:=List.replicate 16 0) n6.get (by rw[hq];rfl) fun w7 a7 x7=>?_
  refine JO w aaZ hR1 (((x2.no x5.ae).no n6.ext).out x7 (by omega)) (by omega) (by omega) (by omega) hb.2 Ig a7 ?_ k;exact(((a1.ext x5.ae fun h=>h).ext n6.ext fun h=>h)).ext x7 (by omega)
 .refine fun b2 w6 n6=>⟨n6.ext.ae,uX hb Vv (Ic.no n6.ext) (by rw[pA];simp;omega) (by rw[pA];decide) fun w5 x5=>⟨n6.ext.ae.no x5,?_⟩⟩
  rw[T_];refine⟨by rw[List.append_nil,List.length_map];exact hq,?_⟩;have s6:=n6.at_;have lt5:=x5.size;have e5:(aa w2).heap.size=w2.heap.size:=rfl;refine av.oH (l:=List.replicate 16 0) ((show av w6.heap b2 368 .u8 (List.replicate 16 0) from n6.get).ext x5 fun h=>h) (by rw[hq];rfl) fun w7 a7 x7=>?_
  refine JO w aaZ hR1 (((x2.no n6.ext.ae).no x5).out x7 (by omega)) (by omega) (by omega) (by omega) hb.2 Ig a7 ?_ k;exact(((a1.ext n6.ext.ae fun h=>h).ext x5 fun h=>h)).ext x7 (by omega)
theorem sP{cb:Nat}{b0:List Int}{K:List Int->Int->Pw}(hc:Hw w cb)(hb:cE b0)(k:∀r w',cE r->Ext No w w'->K r 0 w'):bF (some ⟨cb,0,none⟩) b0 w K:=by
 obtain⟨kl,hc⟩:=hc;exact pZ hc hb fun w' x=>k _ w' (np (by obtain⟨_,_,_,_,_,h,_⟩:=hc;exact h) hb.2) x
end
end Go.Proofs.YtefdekemmnnclaaGreat
namespace Go.V
def be:Nat->Int->List Int
 | 0,_=>[]
 | k+1,n=>be k (n / 256)++[n % 256]
theorem aI:∀(k:Nat)(n:Int),(be k n).length=k
 | 0,_=>rfl
 | k+1,n=>by simp[be,aI k]
theorem bM:∀(k:Nat)(n:Int),B8 (be k n)
 | 0,_=>B8.nil
 | k+1,n=>(bM k _).append (B8.cons (by omega) B8.nil)
def num(l:List Int):Int:=l.foldl (fun n x=>n * 256+x) 0
theorem zr(l:List Int)(x:Int):num (l++[x])=num l * 256+x:=by simp[num]
theorem Hx:∀(l:List Int)(a:Int),B8 l->0<=a->0<=l.foldl (fun n x=>n * 256+x) a/\l.foldl (fun n x=>n * 256+x) a < (a+1) * 256 ^ l.length
 | [],a,_,h=>by simp;omega
 | x::l,a,h8,h=>by
  have hx:=h8 x List.mem_cons_self;have ih:=Hx l (a * 256+x) (h8.sub fun _ h=>List.mem_cons_of_mem _ h) (by omega);rw[List.foldl_cons,List.length_cons,Int.pow_succ];refine⟨ih.1,Int.lt_of_lt_of_le ih.2 ?_⟩;rw[Int.mul_comm (256 ^ l.length) 256,<- Int.mul_assoc];exact Int.mul_le_mul_of_nonneg_right (by omega) (Int.le_of_lt (Int.pow_pos (by omega)))
theorem num_nonneg{l:List Int}(h:B8 l):0<=num l:=(Hx l 0 h (by omega)).1
theorem mK:∀(k:Nat){n:Int},0<=n->n < 256 ^ k->num (be k n)=n
 | 0,n,h0,h1=>by simp at h1;simp[be,num];omega
 | k+1,n,h0,h1=>by
  have e:(256:Int) ^ (k+1)=256 ^ k * 256:=Int.pow_succ _ _;rw[be,zr,mK k (by omega) (by omega)];omega
theorem uZ{l:List Int}(h:B8 l):num l < 256 ^ l.length:=by have:=(Hx l 0 h (by omega)).2;simpa[num] using this
theorem beF:∀(l:List Int)(k:Nat)(a:Int),B8 l->be (k+l.length) (l.foldl (fun n x=>n * 256+x) a)=be k a++l
 | [],k,a,_=>by simp
 | x::l,k,a,h8=>by
  have hx:=h8 x List.mem_cons_self;have ih:=beF l (k+1) (a * 256+x) (h8.sub fun _ h=>List.mem_cons_of_mem _ h);have e1:(a * 256+x) / 256=a:=by omega
  have e2:(a * 256+x) % 256=x:=by omega
  rw[List.foldl_cons,List.length_cons,show k+(l.length+1)=k+1+l.length by omega,ih,be,e1,e2];simp
theorem Mb{l:List Int}(h:B8 l):be l.length (num l)=l:=by have:=beF l 0 0 h;simpa[be,num] using this
theorem JP{n x:Int}(hn:0<=n)(hx:0<=x/\x<=255)(hb:n * 256+x<=18446744073709551615):bK .or .u64 (n * 256) x=n * 256+x:=by
 have h:=IK (n:=x) (x:=n) (i:=8) ⟨hx.1,by omega⟩ hn (by omega);have e:(2:Int) ^ 8=256:=rfl;rw[e]at h;rw[uo ⟨by omega,by omega⟩ ⟨by omega,by omega⟩]at h ⊢;rw[Nat.or_comm];rw[h];omega
theorem tj{a b:Int}(ha:0<=a/\a<=255)(hb:0<=b/\b<=255):0<=bK .or .u8 a b/\bK .or .u8 a b<=255/\(bK .or .u8 a b=0 ↔ a=0/\b=0):=by
 have hA:(BitVec.ofInt 8 a).toNat=a.toNat:=cg ha.1 (by omega);have hB:(BitVec.ofInt 8 b).toNat=b.toNat:=cg hb.1 (by omega)
 have e:bK .or .u8 a b=((a.toNat ||| b.toNat:Nat):Int):=by
  show IntKind.u8.wrap ((BitVec.ofInt 8 a ||| BitVec.ofInt 8 b).toNat:Int)=_;rw[BitVec.toNat_or,hA,hB];refine IntWalk.u8_in _ ⟨by omega,?_⟩;have:a.toNat ||| b.toNat < 2 ^ 8:=Nat.or_lt_two_pow (by omega) (by omega)
  omega
 have aV:a.toNat ||| b.toNat < 2 ^ 8:=Nat.or_lt_two_pow (by omega) (by omega)
 refine⟨by omega,by omega,?_⟩;rw[e];have:(a.toNat ||| b.toNat=0) ↔ a.toNat=0/\b.toNat=0:=Nat.or_eq_zero_iff;omega
theorem p_(z:Value)(n:Nat):Builtin.zeroCells #[z] n=(List.replicate n z).toArray:=by
 apply Array.toList_inj.1;simp only[Builtin.zeroCells,Array.toList_map,Array.toList_range];apply List.ext_getElem (by simp);intro i h1 h2;simp[Nat.mod_one]
theorem DZ{P:Program}{t t' e:TypeId}{k:IntKind}{ie:TypeInfo}{z:Value}{w:Wd}{base:Nat}{s:Sl}{n:Nat}{cs:List Value}{K:Sl->Pw}
  (ht:P.underlying t=some (.slice e)) (Ie:P.underlying t'=some (.int k)) (hi:P.info? e=some ie) (hz:ie.zero=some z) (uh:ie.size=1) (S2:z.cells=#[z]) (Tt:cn z=true) (ZL:ie.bytes=1)
  (own:aP w.heap base e 1 s cs) (du:base<=w.heap.size) (hb:s.len+n<=140737488355328)
  (hk:∀s' w',aP w'.heap base e 1 s' (cs++List.replicate n z)->s'.len=s.len+n->Ext (fun b=>s.au=some b) w w'->(s'.au=s.au∨∃b,s'.au=some b/\w.heap.size<=b)->K s' w'):aU P t t' s (.int .i64 n) K w:=by
 have rd:=own.rd;have hlen:=own.len;simp only[Nat.mul_one]at hlen;have hwr:IntKind.i64.wrap (n:Int)=n:=IntWalk.i64_in _ ⟨by omega,by omega⟩
 have Nt:∀w':Wd,((if n=0 then pure #[] else do pure (Builtin.zeroCells (<- zeroValue e).cells n)):Sem (Array Value)).run P w' = .ok (List.replicate n z).toArray w':=fun w'=>by
  by_cases h0:n=0
  .subst h0;simp
  .simp only[if_neg h0,Sem.run_bind,jF hi hz,Result.andThen_ok,S2,p_,Sem.run_pure]
 have h48:¬ (281474976710656 < (n:Int)):=by omega
 have Vw:¬ ((n:Int) < 0):=by omega
 by_cases jA:s.len+n<=s.cap
 .rcases own.is with⟨rfl,rfl⟩ | ⟨b,rest,ha,hle,rI,hl,hc⟩
  .have hn:n=0:=by simp at jA;omega
   subst hn;refine⟨⟨none,0,0⟩,w,fun ty=>?_,hk _ _ (by simpa using own) rfl (Ext.refl _ _) (.inl rfl)⟩;have ZK:IntKind.i64.wrap 0=0:=rfl;simp[Builtin.append_,aE ht,aE Ie,bR hi,uh,asInt,asIntOf,ZK,jE hi,ZL]
  .simp only[Nat.mul_one]at hl;have aV:cs.length+(List.replicate n z).length<=(cs++rest).length:=by simp only[List.length_replicate];omega
   have ER:=vn (P:=P) (b:=b) (T:=e) (fz:=(0,0)) (List.replicate n z) w (cs++rest).toArray cs.length 0 rI (by simpa using aV) (.inr (.inr (Nat.le_refl _))) (fun v hv=>by rw[List.mem_replicate]at hv;rw[hv.2];exact Tt)
   have yo:setL (cs++rest) cs.length (List.replicate n z)=cs++(List.replicate n z++rest.drop n):=by
    rw[rF _ _ _ aV];simp[List.drop_append]
   refine⟨⟨s.a,s.len+n,s.cap⟩,World.cY w b (.cells (cs++List.replicate n z++rest.drop n).toArray e (0,0)),fun ty=>?_,hk _ _ ?_ rfl ?_ (.inl rfl)⟩
   .obtain⟨sa,sl,sc⟩:=s;simp only at ha;subst ha;simp only at hlen jA;have ea:(⟨b,0,none⟩ : Addr).add sl=⟨b,cs.length,none⟩:=by rw[ay rfl,hlen];simp
    have h1:=Nt w;simp only[Nat.add_zero]at ER;by_cases h0:n=0
    .subst h0;have ZK:IntKind.i64.wrap 0=0:=rfl;simp at ER yo;have Ma:sl<=sc:=by simpa using jA
     simp[Ma,Builtin.append_,aE ht,aE Ie,bR hi,uh,asInt,asIntOf,ZK,jE hi,ZL,ea,ER,yo]
    .simp only[if_neg h0]at h1;simp[Builtin.append_,aE ht,aE Ie,bR hi,uh,asInt,asIntOf,hwr,jE hi,ZL,jA,ea,ER,yo,h0,jF hi hz,S2,p_,Vw,h48]
   .refine⟨by simp;omega,.inr ⟨b,rest.drop n,ha,hle,?_,?_,jA⟩,fun v hv=>?_⟩
    .exact dY rI
    .simp only[List.length_append,List.length_replicate,List.length_drop,Nat.mul_one]at aV hl ⊢;omega
    .rcases List.mem_append.1 hv with h | h
     .exact own.cells v h
     .rw[List.mem_replicate]at h;rw[h.2];exact Tt
   .refine(nI.ext (w:=w) (b:=b) rfl).mono fun i _ hi=>?_
    subst hi;simp[Sl.au,ha]
 .have jB:s.cap < s.len+n:=by omega
  have FI:=growslice_fits (bytes:=ie.bytes) jB (by rw[ZL];omega);have ym:=grownCap_ge (w:=w) (need:=s.len+n) (old:=s.cap) (e:=e);have hold:=(rd.src (P:=P)).get (aa w) rfl;have hn1:n≠0:=by have:=rd.cap;omega
  refine⟨⟨some ⟨w.heap.size,0,none⟩,s.len+n,grownCap w (s.len+n) s.cap e⟩,World.cI (aa w) (.cells (cs++(List.replicate n z++List.replicate (grownCap w (s.len+n) s.cap e - (s.len+n)) z)).toArray e),fun ty=>?_,hk _ _ ?_ rfl ?_ (.inr ⟨w.heap.size,rfl,Nat.le_refl _⟩)⟩
  .obtain⟨sa,sl,sc⟩:=s;simp only at jA FI hold ym jB;have Gb:¬ (Builtin.nextslicecap (sl+n) sc > 281474976710656):=by rw[ZL]at FI;omega
   have afa:¬ ((sl:Int)+(n:Int) > IntKind.i64.max):=by
    have:IntKind.i64.max=9223372036854775807:=rfl;simp only at hb;omega
   have aa0:¬ (9223372036854775807 < (sl:Int)+(n:Int)):=by simp only at hb;omega
   simp[Vw,h48,aa0,-run_choose,Builtin.append_,aE ht,aE Ie,bR hi,uh,asInt,asIntOf,hwr,jA,jE hi,ZL,Gb,nL,hold,hn1,jF hi hz,S2,p_,fO];refine⟨rfl,?_⟩;congr 2;apply Array.toList_inj.1;simp
  .refine⟨by simp;omega,.inr ⟨w.heap.size,List.replicate (grownCap w (s.len+n) s.cap e - (s.len+n)) z,rfl,du,?_,?_,ym⟩,fun v hv=>?_⟩
   .unfold World.cI aa;simp only[Array.getElem?_push,if_true,List.append_assoc]
   .simp only[List.length_append,List.length_replicate,hlen,Nat.mul_one];omega
   .rcases List.mem_append.1 hv with h | h
    .exact own.cells v h
    .rw[List.mem_replicate]at h;rw[h.2];exact Tt
  .refine⟨rfl,rfl,rfl,by simp[World.cI,aa],fun i hi _=>?_⟩;simp only[World.cI,aa];exact jn _ _ _ hi
theorem Mc:∀{k j:Nat}{n:Int},j < k->(be k n).getD (k - 1 - j) 0=n / 256 ^ j % 256
 | 0,j,n,h=>by omega
 | k+1,0,n,_=>by
  rw[be,List.getD_eq_getElem?_getD,List.getElem?_append_right (by rw[aI];omega),aI];simp
 | k+1,j+1,n,h=>by
  rw[be,List.getD_eq_getElem?_getD,List.getElem?_append_left (by rw[aI];omega),<- List.getD_eq_getElem?_getD,show k+1 - 1 - (j+1)=k - 1 - j by omega,Mc (by omega),Int.ediv_ediv_of_nonneg (by decide),Int.pow_succ,Int.mul_comm]
theorem AZ{l:List Int}{j:Nat}(h:j < l.length):l.take (j+1)=l.take j++[l.getD j 0]:=by
 rw[List.take_add_one,List.getD_eq_getElem?_getD,List.getElem?_eq_getElem h];rfl
theorem Ua{j k:Nat}(h:j<=k):(256:Int) ^ j<=256 ^ k:=by
 obtain⟨d,rfl⟩:=Nat.le.dest h;rw[Int.pow_add];have h1:(0:Int) < 256 ^ d:=Int.pow_pos (by decide);have h2:(0:Int) < 256 ^ j:=Int.pow_pos (by decide)
 calc (256:Int) ^ j=256 ^ j * 1:=by rw[Int.mul_one]
  _<=_:=Int.mul_le_mul_of_nonneg_left (by omega) (by omega)
theorem Hy:∀(n:Nat){l:List Int},l.length=n->B8 l->∀i,(num l).toNat.testBit i=(decide (i < 8 * n) && (l.getD (n - 1 - i / 8) 0).toNat.testBit (i % 8))
 | 0,l,hl,_,i=>by
  have:l=[]:=List.length_eq_zero_iff.1 hl;subst this;rw[decide_eq_false (by omega)];simp[num]
 | n+1,l,hl,hb,i=>by
  obtain⟨m,x,rfl⟩ : ∃m x,l=m++[x]:=⟨l.dropLast,l.getLast (by intro e;subst e;simp at hl),(List.dropLast_concat_getLast _).symm⟩
  have hm:m.length=n:=by simpa using hl
  have bm:B8 m:=hb.sub fun y hy=>List.mem_append_left _ hy
  have bx:=hb x (by simp);have h0:=num_nonneg bm;have e:(num (m++[x])).toNat=2 ^ 8 * (num m).toNat+x.toNat:=by rw[zr];omega
  rw[e,Nat.testBit_two_pow_mul_add _ (by omega)];by_cases h:i < 8
  .rw[if_pos h,decide_eq_true (by omega),Bool.true_and,show n+1 - 1 - i / 8=n by omega,show i % 8=i by omega];simp[List.getD_eq_getElem?_getD,hm]
  .rw[if_neg h,Hy n hm bm (i - 8)];by_cases h2:i < 8 * (n+1)
   .rw[decide_eq_true h2,decide_eq_true (by omega),Bool.true_and,Bool.true_and,show(i - 8) % 8=i % 8 by omega,show n - 1 - (i - 8) / 8=n+1 - 1 - i / 8 by omega];congr 2;simp only[List.getD_eq_getElem?_getD];rw[List.getElem?_append_left (by omega)]
   .rw[decide_eq_false h2,decide_eq_false (by omega)];rfl
theorem Vx{b:List Int}(hl:b.length=16)(hb:B8 b):cw (num (b.take 8)) (num (b.drop 8))=co b:=by
 funext i;unfold cw co;by_cases h:i < 64
 .rw[if_pos h,Hy 8 (by simp;omega) (hb.take 8),decide_eq_true (by omega),decide_eq_true (by omega),Bool.true_and,Bool.true_and,show(63 - i) % 8=7 - i % 8 by omega,show 8 - 1 - (63 - i) / 8=i / 8 by omega];congr 2;simp only[List.getD_eq_getElem?_getD];rw[List.getElem?_take_of_lt (by omega)]
 .rw[if_neg h];by_cases h2:i < 128
  .rw[decide_eq_true h2,Bool.true_and,Bool.true_and,Hy 8 (by simp;omega) (hb.drop 8),decide_eq_true (by omega),Bool.true_and,show(127 - i) % 8=7 - i % 8 by omega];congr 2;simp only[List.getD_eq_getElem?_getD,List.getElem?_drop];congr 2;omega
  .rw[decide_eq_false h2];rfl
theorem NB{l:List Int}(hl:l.length=8)(hb:B8 l):lY (num l):=by
 have:=num_nonneg hb;have:=uZ hb;rw[hl]at this;constructor <;> omega
theorem Vy{x y:Int}(hx:lY x)(hy:lY y):co (be 8 x++be 8 y)=cw x y:=by
 have:=Vx (b:=be 8 x++be 8 y) (by simp[aI]) ((bM _ _).append (bM _ _))
 rw[<- this,List.take_append_of_le_length (by rw[aI];omega),List.take_of_length_le (by rw[aI];omega),List.drop_append_of_le_length (by rw[aI];omega),List.drop_eq_nil_of_le (by rw[aI];omega),List.nil_append,
  mK 8 hx.1 (by have:=hx.2;omega),mK 8 hy.1 (by have:=hy.2;omega)]
theorem XJ{x y:Int}(hx:lY x)(hy:lY y):ah (cw x y)=be 8 x++be 8 y:=by
 rw[<- Vy hx hy];exact Xm (by simp[aI]) ((bM _ _).append (bM _ _))
end Go.V
namespace Go.Proofs.YtefdekemmnnclaaGreat
open Go.V Go.V.Dk
theorem blt{w:Wd}{b:Nat}{o:Obj}(h:w.heap[b]? = some o):b < w.heap.size:=(Array.getElem?_eq_some_iff.1 h).1
structure vY where
 b:Nat
 sn:Sl
 sf:Sl
 sw:Sl
def vY.fp(d:vY)(i:Nat):Prop:=i=d.b∨d.sn.au=some i∨d.sf.au=some i∨d.sw.au=some i
abbrev vY.p(d:vY):Option Addr:=some ⟨d.b,0,none⟩
abbrev NC(d:vY)(steps fail cut:Int)(down:Bool):List Value:=[d.sn.v,d.sf.v,d.sw.v,.int .u64 steps,.int .i64 fail,.int .i64 cut,.bool down]
structure bg(h:Array Obj)(d:vY)(D:DS):Prop where
 au:h[d.b]? = some (.cells (NC d D.steps D.fail D.cut D.down).toArray mn (0,0))
 now:aP h 0 bB 256 d.sn (D.now.flatMap gD)
 gC:aP h 0 bB 256 d.sf (D.gC.flatMap gD)
 waits:aP h 0 sG 257 d.sw (D.waits.flatMap PS)
 nb:d.sn.au≠some d.b/\d.sf.au≠some d.b/\d.sw.au≠some d.b
 nn:∀i,d.sn.au=some i->d.sf.au≠some i/\d.sw.au≠some i
 nf:∀i,d.sf.au=some i->d.sw.au≠some i
 wf:WF D
section
variable {w w':Wd} {d:vY} {D:DS}
theorem bg.lt(r:bg w.heap d D){i:Nat}(h:d.fp i):i < w.heap.size:=by
 rcases h with rfl | h | h | h
 .exact blt r.au
 .exact(r.now.lt h).2
 .exact(r.gC.lt h).2
 .exact(r.waits.lt h).2
theorem bg.ext{S:Nat->Prop}(r:bg w.heap d D)(x:Ext S w w')(hS:∀i,d.fp i->¬ S i):bg w'.heap d D:=
 ⟨by rw[x.au _ (blt r.au) (hS _ (.inl rfl))];exact r.au,r.now.ext x fun i hi=>hS i (.inr (.inl hi)),r.gC.ext x fun i hi=>hS i (.inr (.inr (.inl hi))),r.waits.ext x fun i hi=>hS i (.inr (.inr (.inr hi))),r.nb,r.nn,r.nf,r.wf⟩
theorem bg.no(r:bg w.heap d D)(x:Ext No w w'):bg w'.heap d D:=r.ext x fun _ _ h=>h
theorem bg.ln(r:bg w.heap d D):d.sn.len=D.now.length:=by have:=r.now.len;rw[cC (iD r.wf.rn)]at this;omega
theorem bg.lf(r:bg w.heap d D):d.sf.len=D.now.length:=by have:=r.gC.len;rw[cC (iD r.wf.rf),r.wf.n]at this;omega
theorem bg.lw(r:bg w.heap d D):d.sw.len=D.waits.length:=by have:=r.waits.len;rw[cC (TM r.wf.rw)]at this;omega
theorem bg.Md{st fl ct:Int}{dn:Bool}(r:bg w.heap d D)(hw:nI w d.b (.cells (NC d st fl ct dn).toArray mn (0,0)) w')(wf:WF { D with steps:=st,fail:=fl,cut:=ct,down:=dn }) :
    bg w'.heap d { D with steps:=st,fail:=fl,cut:=ct,down:=dn }:=
  ⟨hw.get r.au,r.now.ext hw.ext fun i hi h=>r.nb.1 (by rw[hi,h]),r.gC.ext hw.ext fun i hi h=>r.nb.2.1 (by rw[hi,h]),r.waits.ext hw.ext fun i hi h=>r.nb.2.2 (by rw[hi,h]),r.nb,r.nn,r.nf,wf⟩
theorem bg.Me{b:Bool}(r:bg w.heap d D)(h:D.down=b):bg w.heap d { D with down:=b }:=by subst h;exact r
theorem nq{i:Int}{K:Bool->Pw}(r:bg w.heap d D)(k:K (hasB D i) w):eK d.p i w K:=by
 apply Cb;have hl:=r.ln;refine If.dec (fun h=>Nn.mk ⟨d.sn,Cell.ah r.au rfl,?_⟩) (fun h=>?_)
 .have:decide (i < ((d.sn.len:Int)))=hasB D i:=by unfold hasB;rw[hl];simp;omega
  rw[this];exact k
 .have:hasB D i=false:=by unfold hasB;simp;omega
  rw[this]at k;exact k
theorem tp{K:Int->Pw}(r:bg w.heap d D)(k:K (D.now.length:Int) w):fQ d.p w K:=by
 apply xh;refine If.no (Nn.mk ⟨d.sn,Cell.ah r.au rfl,?_⟩);rw[r.ln];exact k
theorem qa{K:Int->Pw}(r:bg w.heap d D)(hs:0<=D.steps/\D.steps < 18446744073709551615)(k:∀w',bg w'.heap d (cj D).2->Ext (·=d.b) w w'->w'.heap.size=w.heap.size->K (cj D).1 w'):fu d.p w K:=by
 apply AE;have hf:=r.wf.fl;have hc:=r.wf.ct;refine⟨fun w2=>bg w2.heap d { D with steps:=D.steps,fail:=D.fail,cut:=D.cut,down:=D.down || decide (D.cut=0) }/\Ext (·=d.b) w w2/\w2.heap.size=w.heap.size,?_,?_⟩
 .refine Nn.mk ⟨_,Cell.ah r.au rfl,If.not (If.cases (fun hd=>?_) (fun hd=>Nn.mk ⟨_,Cell.ah r.au rfl,If.beq (fun h0=>Nn.mk (aH.mk r.au (by simp) rfl fun w1 hw=>⟨?_,hw.ext,hw.size⟩)) (fun h0=>?_)⟩))⟩
  .rw[hd,Bool.true_or];exact⟨r.Me hd,Ext.refl _ _,rfl⟩
  .have e:(D.down || decide (D.cut=0))=true:=by simp[h0]
   rw[e];exact r.Md hw ⟨r.wf.n,r.wf.lo,r.wf.hi,r.wf.rn,r.wf.rf,r.wf.rw,r.wf.fl,r.wf.ct⟩
  .have e:(D.down || decide (D.cut=0))=D.down:=by simp[h0]
   rw[e];exact⟨r,Ext.refl _ _,rfl⟩
 .rintro _ w2 ⟨r2,x2,z2⟩;refine Nn.mk ⟨_,Cell.ah r2.au rfl,If.cases (fun hd=>?_) (fun hd=>?_)⟩
  .have ZA:D.down=true∨D.cut=0:=by simpa using hd
   have e:cj D=(81,{ D with down:=true }):=by unfold cj;rw[if_pos ZA]
   rw[e]at k;refine k w2 ?_ x2 z2;exact r2.Me hd
  .have ZA:¬ (D.down=true∨D.cut=0):=by simpa using hd
   have hdn:D.down=false:=by simp at hd;exact hd.1
   have wf4:∀{st fl:Int},0<=fl/\fl<=9223372036854775807->WF { D with steps:=st,fail:=fl,cut:=(if D.cut > 0 then D.cut - 1 else D.cut),down:=false }:=fun h=>⟨r.wf.n,r.wf.lo,r.wf.hi,r.wf.rn,r.wf.rf,r.wf.rw,h,by simp only;split <;> omega⟩
   refine⟨fun w4=>bg w4.heap d { D with steps:=D.steps,fail:=D.fail,cut:=(if D.cut > 0 then D.cut - 1 else D.cut),down:=false }/\Ext (·=d.b) w w4/\w4.heap.size=w.heap.size,?_,?_⟩
   .have r2:=r2.Me hd;refine Nn.mk ⟨_,Cell.ah r2.au rfl,If.dec (fun h=>Nn.mk ⟨_,Cell.ah r2.au rfl,Ar.i64 (by simp only;omega) (Nn.mk (aH.mk r2.au (by simp) rfl fun w3 hw=>⟨?_,x2.trans hw.ext fun _ _ h=>h,by rw[hw.size,z2]⟩))⟩) (fun h=>⟨?_,x2,z2⟩)⟩
    .simp only at h;have w0:=wf4 (st:=D.steps) hf;rw[if_pos h]at w0 ⊢;exact r2.Md hw w0
    .simp only at h;rw[if_neg h];exact r2
   .rintro _ w4 ⟨r4,x4,z4⟩;refine Nn.mk ⟨_,Cell.ah r4.au rfl,Ar.u64 (by simp only;omega) (Nn.mk (aH.mk r4.au (by simp) rfl fun w5 PU=>?_))⟩;have r5:bg w5.heap d { D with steps:=D.steps+1,fail:=D.fail,cut:=(if D.cut > 0 then D.cut - 1 else D.cut),down:=false }:=r4.Md PU (wf4 hf);have x5:=x4.trans PU.ext (S:=(·=d.b)) fun _ _ h=>h
    have z5:w5.heap.size=w.heap.size:=by rw[PU.size,z4]
    refine Nn.mk ⟨_,Cell.ah r5.au rfl,If.dec (fun h=>Nn.mk ⟨_,Cell.ah r5.au rfl,Ar.i64 (by simp only;omega) (Nn.mk (aH.mk r5.au (by simp) rfl fun w6 hw6=>?_))⟩) (fun h=>?_)⟩
    .simp only at h;have r6:bg w6.heap d { D with steps:=D.steps+1,fail:=D.fail - 1,cut:=(if D.cut > 0 then D.cut - 1 else D.cut),down:=false }:=r5.Md hw6 (wf4 (by omega));have x6:=x5.trans hw6.ext (S:=(·=d.b)) fun _ _ h=>h
     have e:cj D=(if D.fail=1 then 80 else 0,{ D with steps:=D.steps+1,fail:=D.fail - 1,cut:=(if D.cut > 0 then D.cut - 1 else D.cut),down:=false }):=by
      unfold cj;rw[if_neg ZA,if_pos h,hdn]
     rw[e]at k;refine Nn.mk ⟨_,Cell.ah r6.au rfl,If.beq (fun h1=>?_) (fun h1=>?_)⟩
     .simp only at h1;rw[if_pos (by omega)]at k;exact k w6 r6 x6 (by rw[hw6.size,z5])
     .simp only at h1;rw[if_neg (by omega)]at k;exact k w6 r6 x6 (by rw[hw6.size,z5])
    .simp only at h
     have e:cj D=(0,{ D with steps:=D.steps+1,fail:=D.fail,cut:=(if D.cut > 0 then D.cut - 1 else D.cut),down:=false }):=by
      unfold cj;rw[if_neg ZA,if_neg h,hdn]
     rw[e]at k;exact k w5 r5 x5 z5
end
end Go.Proofs.YtefdekemmnnclaaGreat
namespace Go.Proofs.YtefdekemmnnclaaGreat
open Go.V Go.V.Rn
abbrev sQ(h:Array Obj)(base:Nat)(s:Sl)(l:List fP):Prop:=aP h base FQ 2 s (rc l)
abbrev Ii(h:Array Obj)(s:Sl)(l:List fP):Prop:=Rd h s 2 (rc l)
theorem Ii.len{h:Array Obj}{s:Sl}{l:List fP}(o:Ii h s l):s.len=l.length:=by have:=Rd.len o;rw[wL]at this;omega
theorem sQ.len{h:Array Obj}{base:Nat}{s:Sl}{l:List fP}(o:sQ h base s l):s.len=l.length:=Ii.len o.rd
theorem Ix.run{w:Wd}{s:Sl}{l:List fP}{i:Int}{K:Addr->Prop}(h:Ii w.heap s l)(h0:0<=i)(h1:i < (s.len:Int))
  (k:∀b o,s.au=some b->Cell w ⟨b,o,none⟩ (.int .u32 (gr l i.toNat).1)->Cell w ((⟨b,o,none⟩ : Addr).add 1) (.int .u32 (gr l i.toNat).2)->K ⟨b,o,none⟩):Ix s.a s.len i 2 K:=by
 have hl:=h.len;have aV:i.toNat < l.length:=by omega
 have hr:=wL l;obtain⟨b,off,ha,hc⟩:=h.at_ (by intro e;rw[e]at hr;simp at hr;omega);obtain⟨g1,g2⟩:=QP l i.toNat aV;refine⟨_,ha,h0,h1,?_⟩;rw[ay rfl];refine k _ _ (by simp[Sl.au,ha]) (Cell.mk ?_) ?_
 .have:=hc (i.toNat * 2) (by omega);rw[List.getElem?_eq_getElem (by omega),Option.some.injEq]at g1;rw[g1]at this;exact this
 .rw[ay rfl];refine Cell.mk ?_;have:=hc (i.toNat * 2+1) (by omega);rw[List.getElem?_eq_getElem (by omega),Option.some.injEq]at g2;rw[g2,<- Nat.add_assoc]at this;exact this
theorem af.Vz{w:Wd}{b o:Nat}{v:Value}(h:Cell w ((⟨b,o,none⟩ : Addr).add 1) v):af (Ext No w) ((⟨b,o,none⟩ : Addr).add 1) v:=by
 rw[ay rfl]at h ⊢;exact af.cell h
theorem af.aa1{S:Nat->Prop}{w:Wd}{b o:Nat}{v:Value}(h:Cell w ((⟨b,o,none⟩ : Addr).add 1) v)(hb:¬ S b):af (Ext S w) ((⟨b,o,none⟩ : Addr).add 1) v:=by
 rw[ay rfl]at h ⊢;exact af.bq h hb
abbrev QZ(c d:Int):Obj:= .cells [.int .u32 c,.int .u32 d].toArray 290 (0,0)
theorem A3{w1:Wd}{c d:Int}{K:Nat->Pw}(k:∀b w3,w1.heap.size<=b->Ext No w1 w3->w3.heap[b]? = some (QZ c d)->K b w3) :
  an w1 (.cells [.int .u32 0,.int .u32 0].toArray 290) fun b w2=>List.length (α:=Value) [.int .u32 c,.int .u32 d]=2/\cr w2 (Addr.mk b 0 none) [.int .u32 c,.int .u32 d] fun w3=>K b w3:=by
 intro b w2 new;refine⟨rfl,_,_,_,new.get,rfl,by simp,.inr (.inr (Nat.le_refl _)),by simp[cn],fun w3 hw=>k b w3 (by rw[new.at_];exact Nat.le_refl _) ?_ ?_⟩
 .exact new.ext.trans hw.ext fun i hi e=>by subst e;have:=new.at_;omega
 .exact hw.get new.get
theorem ox{s:Sl}{w:Wd}{K:Bool->Pw}{L:List fP}(h:Ii w.heap s L)(hu:EF L)(hn:L.length<=9223372036854775807)(k:∀w',Ext No w w'->K (cA L) w'):fT s w K:=by
 apply G0;have hl:=h.len;refine⟨fun m t w'=>∃j:Nat,t=j/\m=L.length - j/\j<=L.length/\cA L=kY (pe L j) (L.drop j)/\Ext No w w',⟨_,0,rfl,rfl,Nat.zero_le _,rfl,Ext.refl _ _⟩,?_⟩;rintro _ m t w1 ⟨j,rfl,rfl,hj,he,ext⟩;have hg:=hu.get j;refine If.dec (fun aV=>?_) (fun ym=>?_)
 .have yd:j < L.length:=by omega
  rw[IZ yd,kY]at he
  refine Ix.run (h.no ext) (by omega) aV fun b o hb c1 c2=>⟨_,c1,_,c2,A3 fun b w3 XD Cj tq=>⟨Ext No w3,(Ext.refl _ _).drew,?_⟩⟩
  rw[Int.toNat_natCast]at tq;have ext':=ext.no Cj;refine⟨_,af.cell (Cell.ah tq rfl),_,af.cell (Cell.ah tq rfl),If.dec (fun h1=>?_) (fun h1=>?_)⟩
  .have:cA L=false:=by rw[he];simp;intro;omega
   rw[<- this];exact k _ ext'.drew
  .have next:∀(_:decide (pe L j < (gr L j).1)=true),∃m1,m1 < L.length - j/\∃j':Nat,(j:Int)+1=j'/\m1=L.length - j'/\j'<=L.length/\cA L=kY (pe L j') (L.drop j')/\Ext No w (aa w3):=fun hd=>
    ⟨_,by omega,j+1,by omega,rfl,by omega,by rw[he,hd,TP];simp;intro;omega,ext'.drew⟩
   refine If.dec (fun h2=>?_) (fun h2=>Ar.i64 (by omega) (next ?_))
   .refine⟨_,af.cell (Cell.ah tq rfl),Ar.i64 (by omega) (Ix.run (h.no ext') (by omega) (by omega) fun b o hb c1 c2=>⟨_,af.Vz c2,?_⟩)⟩
    have Ub:pe L j=(gr L ((j:Int) - 1).toNat).2:=by
     unfold pe;rw[if_neg (by omega),show((j:Int) - 1).toNat=j - 1 by omega]
    rw[<- Ub];refine If.dec (fun h3=>?_) (fun h3=>Ar.i64 (by omega) (next (by simp;omega)));have:cA L=false:=by rw[he];simp;intro _ h;omega
    rw[<- this];exact k _ ext'.drew
   .have:j=0:=by omega
    subst this;simp[pe];omega
 .have IJ:L.drop j=[]:=List.drop_of_length_le (by omega);rw[IJ]at he;have:=k w1 ext;rw[he]at this;exact this
end Go.Proofs.YtefdekemmnnclaaGreat
namespace Go.Proofs.YtefdekemmnnclaaGreat
open Go.V Go.V.Rn
theorem Mf{s:Sl}{p:Int}{w:Wd}{K:Int->Pw}{L:List fP}(h:Ii w.heap s L)(hn:L.length<=9223372036854775807)(k:∀w',Ext No w w'->K (placeN p L) w'):sv s p w K:=by
 apply G5;have hl:=h.len;refine⟨fun m t w'=>∃j:Nat,t=j/\m=L.length - j/\j<=L.length/\placeN p L=j+placeN p (L.drop j)/\Ext No w w',⟨_,0,rfl,rfl,Nat.zero_le _,by simp,Ext.refl _ _⟩,?_⟩;rintro _ m t w1 ⟨j,rfl,rfl,hj,he,ext⟩;refine If.dec (fun aV=>?_) (fun ym=>?_)
 .have yd:j < L.length:=by omega
  rw[IZ yd,placeN]at he
  refine Ix.run (h.no ext) (by omega) aV fun b o hb c1 c2=>⟨_,c1,_,c2,A3 fun b w3 XD Cj tq=>?_⟩
  rw[Int.toNat_natCast]at tq;have ext':=ext.no Cj;refine⟨_,Cell.ah tq rfl,If.dec (fun h1=>?_) (fun h1=>?_)⟩
  .rw[if_pos h1]at he;have:=k w3 ext';rw[he]at this;exact this
  .rw[if_neg h1]at he;exact Ar.i64 (by omega) ⟨_,by omega,j+1,by omega,rfl,by omega,by omega,ext'⟩
 .have IJ:L.drop j=[]:=List.drop_of_length_le (by omega);rw[IJ]at he;have:=k w1 ext;have e:placeN p L=s.len:=by simp only[placeN]at he;omega
  rw[e]at this;exact this
theorem Q0{s:Sl}{p:Int}{w:Wd}{K:Bool->Int->Pw}{L:List fP}(h:Ii w.heap s L)(hu:EF L)(hn:L.length<=9223372036854775807)
  (k:∀w',Ext No w w'->K (cA L && hasB p L) (if cA L then 0 else 2) w'):wY s p w K:=by
 apply LZ;have hl:=h.len;refine ox h hu hn fun w1 ext=>If.not (If.cases (fun hr=>?_) (fun hr=>?_))
 .rw[hr]at k;refine Mf (h.no ext) hn fun w2 OH=>?_
  have ext':=ext.no OH;have hp:=FN (p:=p) hr;refine If.dec (fun h1=>?_) (fun h1=>?_)
  .refine Ix.run (h.no ext') (by omega) h1 fun _ _ _ c1 c2=>⟨_,c1,?_⟩
   have:=k w2 ext';rw[hp,decide_eq_true (by omega:placeN p L < L.length)]at this;rw[Int.toNat_natCast];simpa using this
  .have:=k w2 ext';rw[hp,decide_eq_false (by omega:¬ placeN p L < L.length)]at this;simpa using this
 .have:=k w1 ext;rw[hr]at this;exact this
theorem FW{a b:Int}{w:Wd}{K:Sl->Pw}(k:∀s w',sQ w'.heap w.heap.size s (LA a b)->Ext No w w'->K s w'):pq a b w K:=by
 apply Jo;refine If.dec (fun h=>k _ _ ?_ (Ext.refl _ _)) (fun h=>fun b' w1 new=>k _ _ ?_ new.ext)
 .rw[LA,if_pos h];exact aP.nil _ _ _ _
 .rw[LA,if_neg h];exact aP.new (sz:=2) (n:=1) new rfl (Lz [(a,b)])
end Go.Proofs.YtefdekemmnnclaaGreat
namespace Go.Proofs.YtefdekemmnnclaaGreat
open Go.V Go.V.Rn
theorem aH.run{w:Wd}{base:Nat}{s:Sl}{L:List fP}{i z:Int}{K:Pw}(o:sQ w.heap base s L)(h0:0<=i)(h1:i < (s.len:Int))
  (k:∀w',sQ w'.heap base s (yr L i.toNat z)->Ext (fun b=>s.au=some b) w w'->w'.heap.size=w.heap.size->K w'):Ix s.a s.len i 2 fun a=>aH w (a.add 1) (.int .u32 z) K:=by
 have hl:=sQ.len o;have hrc:=wL L;have yo:=I2 L i.toNat z (by omega);rcases o.is with⟨rfl,hn⟩ | ⟨b,rest,ha,hle,hb,hc,jB⟩
 .simp at h1;omega
 .refine⟨_,ha,h0,h1,?_⟩;rw[ay rfl];show aH w (Addr.add ⟨b,0+i.toNat * 2,none⟩ 1) _ _;rw[ay rfl,Nat.zero_add];refine aH.mk hb (by simp;omega) rfl fun w' hw=>k w' ⟨by rw[wL,FO,hl],.inr ⟨b,rest,ha,hle,?_,?_,jB⟩,Lz _⟩ (hw.ext.mono fun j _ hj=>by subst hj;simp[Sl.au,ha]) hw.size
  .rw[hw.get hb,List.set_append_left _ _ (by simp only;omega),yo]
  .rw[yo];simpa using hc
theorem JQ{l:Sl}{r:fP}{w:Wd}{base:Nat}{K:Sl->Pw}{L:List fP}(o:sQ w.heap base l L)(du:base<=w.heap.size)(hn:L.length<=8796093022208)
  (k:∀s w',sQ w'.heap base s (wM L r)->Ext (fun b=>l.au=some b) w w'->(s.au=l.au∨∃b,s.au=some b/\w.heap.size<=b)->K s w'):sx l r.1 r.2 w K:=by
 apply L0;have hl:=sQ.len o;intro b w1 new;have XK:=o.no new.ext;have EI:∀i,l.au=some i->i≠b:=fun i hi e=>by have:=(o.lt hi).2;have:=new.at_;omega
 refine⟨fun t w2=>t=decide (0 < L.length/\r.1<=Ao L)/\w2=aa w1,?_,?_⟩
 .refine⟨Ext No w1,(Ext.refl _ _).drew,If.dec (fun h=>?_) (fun h=>⟨?_,rfl⟩)⟩
  .refine⟨_,af.cell (Cell.ah new.get rfl),Ar.i64 (by omega) (Ix.run XK.rd (by omega) (by omega) fun _ _ _ c1 c2=>⟨_,af.Vz c2,?_,rfl⟩)⟩;rw[decide_eq_decide,show((l.len:Int) - 1).toNat=L.length - 1 by omega];exact⟨fun h'=>⟨by omega,h'⟩,fun h'=>h'.2⟩
  .symm;rw[decide_eq_false_iff_not];intro h';omega
 .rintro _ t w2 ⟨rfl,rfl⟩;refine If.dec (fun h=>⟨fun _=>True,trivial,?_⟩) (fun h=>?_)
  .have XL:wM L r=yr L (L.length - 1) (Ir (Ao L) r.2):=by unfold wM;rw[if_pos h]
   have e1:((l.len:Int) - 1).toNat=L.length - 1:=by omega
   have Fj:sQ (aa (aa w1)).heap base l L:=XK;have z_:(aa (aa w1)).heap[b]? = some (QZ r.1 r.2):=new.get
   have fin:∀z,z=Ir (Ao L) r.2->Ix l.a l.len ((l.len:Int) - 1) 2 fun a=>aH (aa (aa w1)) (a.add 1) (.int .u32 z) fun w3=>True/\K l w3:=fun z hz=>
    aH.run Fj (by omega) (by omega) fun w3 Uc Cj _=>⟨trivial,k l w3 (by rw[XL,<- hz,<- e1];exact Uc) ((new.ext.aF.trans Cj.ae.ae fun _ _ h=>h)) (.inl rfl)⟩
   refine Ar.i64 (by omega) (Ar.i64 (by omega) (Ix.run Fj.rd (by omega) (by omega) fun _ _ _ c1 c2=>⟨?_,?_⟩))
   .exact⟨_,c2,trivial,_,Cell.ah z_ rfl,trivial,Nm.mk (fin _ (by rw[e1];rfl))⟩
   .exact⟨_,Cell.ah z_ rfl,trivial,_,c2,trivial,Nm.mk (fin _ (by rw[e1];rfl))⟩
  .have XL:wM L r=L++[r]:=by unfold wM;rw[if_neg h]
   refine⟨_,Cell.ah (w:=aa w1) new.get rfl,_,Cell.ah (w:=aa w1) new.get rfl,fun b2 w3 Ud=>?_⟩;have:=new.size;have:=Ud.size;have Fj:sQ (aa w1).heap base l L:=XK;refine pv (Fj.no (w:=aa w1) Ud.ext) (by simp[aa] at *;omega) ((aP.new (sz:=2) (n:=1) Ud rfl (Lz [r])).rd.src) (by simp only;omega) fun s' w4 JR _ ext' rI=>?_
   refine k s' w4 (by rw[XL,sQ,QO];exact JR) (((new.ext.drew.no Ud.ext).aF (S:=fun b=>l.au=some b)).trans ext' fun _ _ h=>h) ?_;rcases rI with h | ⟨b',h,ym⟩
   .exact .inl h
   .exact .inr ⟨b',h,by simp[aa] at *;omega⟩
end Go.Proofs.YtefdekemmnnclaaGreat
namespace Go.Proofs.YtefdekemmnnclaaGreat
open Go.V Go.V.Rn
theorem Cut.tail{H:Array Obj}{s:Sl}{r:fP}{L:List fP}{K:Sl->Prop}(h:Ii H s (r::L))(k:∀s',Ii H s' L->K s'):Cut s 1 (((s.len:Nat):Int)) (((s.cap:Nat):Int)) 2 K:=by
 have hl:=h.len;have hc:=h.cap;simp only[List.length_cons]at hl;refine Cut.mk (by omega) (by omega) (by omega) (by omega) (k _ ?_);have:=Rd.cut h (lo:=1) (hi:=s.len) (mx:=s.cap) (by omega) (Nat.le_refl _) hc
 have e:(List.drop (1 * 2) (rc (r::L))).take ((s.len - 1) * 2)=rc L:=by
  rw[show List.drop (1 * 2) (rc (r::L))=rc L from rfl];exact List.take_of_length_le (by rw[wL];omega)
 rw[e]at this;have e1:((s.len:Int) - 1).toNat=s.len - 1:=by omega
 have e2:((s.cap:Int) - 1).toNat=s.cap - 1:=by omega
 have e3:((s.cap:Int)).toNat=s.cap:=by omega
 have e4:(1:Int).toNat=1:=rfl;rw[e1,e2,e3,e4];exact this
theorem u_{L:List fP}(h:0 < L.length):∃r l,L=r::l:=by cases L with
 | nil=>simp at h
 | cons r l=>exact⟨r,l,rfl⟩
theorem OI{a b:Sl}{w:Wd}{K:Sl->Int->Pw}{A B:List fP}(ha:Ii w.heap a A)(hb:Ii w.heap b B)(hua:EF A)(hub:EF B)(hna:A.length<=9223372036854775807)(hnb:B.length<=9223372036854775807)
  (k:∀s w',sQ w'.heap w.heap.size s (if cA A && cA B then yt A B else[])->Ext No w w'->K s (if cA A && cA B then 0 else 2) w'):uK a b w K:=by
 apply Jn;refine⟨fun w'=>(cA A && cA B)=true/\Ext No w w',?_,?_⟩
 .refine ox ha hua (by omega) fun w1 ext=>If.not (If.cases (fun hr=>?_) (fun hr=>?_))
  .refine ox (hb.no ext) hub (by omega) fun w2 OH=>If.not (If.cases (fun FV=>?_) (fun FV=>?_))
   .exact⟨by rw[hr,FV];rfl,ext.no OH⟩
   .have:=k ⟨none,0,0⟩ w2;rw[hr,FV]at this;exact this (aP.nil _ _ _ _) (ext.no OH)
  .have:=k ⟨none,0,0⟩ w1;rw[hr]at this;exact this (aP.nil _ _ _ _) ext
 .rintro _ w3 ⟨hr,Cj⟩;have hra:cA A=true/\cA B=true:=by simpa using hr
  have hn:A.length+B.length<=8796093022208:=by have:=vt hra.1 hua;have:=vt hra.2 hub;omega
  rw[hr]at k
  refine⟨fun m a1 b1 l w'=>∃A1 B1 O,Ii w.heap a1 A1/\Ii w.heap b1 B1/\sQ w'.heap w.heap.size l O/\mM O A1 B1=yt A B/\m=A1.length+B1.length/\O.length+A1.length+B1.length<=A.length+B.length/\Ext No w w',
   ⟨_,A,B,[],ha,hb,aP.nil _ _ _ _,rfl,rfl,by simp,Cj⟩,?_⟩
  rintro _ m a1 b1 l w4 ⟨A1,B1,O,ra,rb,own,he,rfl,hle,JS⟩;have la:=ra.len;have lb:=rb.len;refine⟨fun w5=>w5=w4/\(0 < A1.length∨0 < B1.length),?_,?_⟩
  .refine If.dec (fun h=>⟨rfl,by omega⟩) (fun h=>If.dec (fun h2=>⟨rfl,by omega⟩) (fun h2=>?_));have e1:A1=[]:=List.length_eq_zero_iff.1 (by omega);have e2:B1=[]:=List.length_eq_zero_iff.1 (by omega);subst e1 e2;rw[mM]at he;rw[he]at own;exact k l w4 own JS
  .rintro _ w5 ⟨rfl,aeZ⟩;refine⟨fun t w6=>w6=aa w5/\t=(decide (B1.length=0) || (decide (0 < A1.length) && decide ((gr A1 0).1<=(gr B1 0).1))),?_,?_⟩
   .refine⟨Ext No w5,(Ext.refl _ _).drew,If.beq (fun h=>⟨rfl,?_⟩) (fun h=>If.dec (fun h2=>?_) (fun h2=>⟨rfl,?_⟩))⟩
    .rw[decide_eq_true (by omega:B1.length=0)];rfl
    .refine Ix.run (ra.no JS) (by omega) (by omega) fun _ _ _ c1 c2=>⟨_,af.cell c1,Ix.run (rb.no JS) (by omega) (by omega) fun _ _ _ c1' c2'=>⟨_,af.cell c1',rfl,?_⟩⟩
     rw[decide_eq_false (by omega:¬ B1.length=0),decide_eq_true (by omega:0 < A1.length)];rfl
    .rw[decide_eq_false (by omega:¬ B1.length=0),decide_eq_false (by omega:¬ 0 < A1.length)];rfl
   .rintro _ t w6 ⟨rfl,rfl⟩;have aa2:sQ (aa (aa w5)).heap w.heap.size l O:=own;have Q1:Ext No w (aa (aa w5)):=JS.drew.drew
    have ne:∀{s:Sl}{i:Nat}{M:List fP},Ii w.heap s M->0 < M.length->s.au=some i->¬ l.au=some i:=fun {s i M} hm hp hi hl=>by
     have h1:=(own.lt hl).1;have h2:=hm.lt (by intro e;have:=wL M;rw[e]at this;simp at this;omega) hi;omega
    have qQ:∀{w7:Wd},Ext (fun b=>l.au=some b) (aa (aa w5)) w7->Ext No w w7:=fun e=>Q1.trans e fun i hi hb=>by have:=(own.lt hb).1;omega
    refine If.cases (fun h=>?_) (fun h=>?_)
    .have hA:0 < A1.length:=by
      simp only[Bool.or_eq_true,Bool.and_eq_true,decide_eq_true_eq]at h;omega
     obtain⟨r,A2,rfl⟩:=u_ hA;refine⟨Ext (fun b=>l.au=some b) (aa (aa w5)),Ext.refl _ _,Ix.run (w:=aa (aa w5)) (ra.no Q1) (by omega) (by simp at la;omega) fun b' o EE c1 c2=>⟨_,af.bq c1 (ne ra hA EE),_,af.aa1 c2 (ne ra hA EE),Cut.tail ra fun s' ra'=>?_⟩⟩
     refine JQ (r:=r) aa2 (by have:=Q1.size;omega) (by simp at hle;omega) fun s2 w7 XM Q2 _=>⟨Q2,_,?_,A2,B1,wM O r,ra',rb,XM,?_,rfl,?_,qQ Q2⟩
     .simp
     .rw[<- he]
      cases B1 with
      | nil=>rw[mM]
      | cons q B2=>
       have:r.1<=q.1:=by simpa[CG] using h
       rw[mM,if_pos this]
     .have:=@I3 O r;simp at hle;omega
    .have hB:0 < B1.length:=by
      simp only[Bool.or_eq_false_iff,decide_eq_false_iff_not]at h;omega
     obtain⟨r,B2,rfl⟩:=u_ hB;refine⟨Ext (fun b=>l.au=some b) (aa (aa w5)),Ext.refl _ _,Ix.run (w:=aa (aa w5)) (rb.no Q1) (by omega) (by simp at lb;omega) fun b' o EE c1 c2=>⟨_,af.bq c1 (ne rb hB EE),_,af.aa1 c2 (ne rb hB EE),Cut.tail rb fun s' rb'=>?_⟩⟩
     refine JQ (r:=r) aa2 (by have:=Q1.size;omega) (by simp at hle;omega) fun s2 w7 XM Q2 _=>⟨Q2,_,?_,A1,B2,wM O r,ra,rb',XM,?_,rfl,?_,qQ Q2⟩
     .simp
     .rw[<- he]
      cases A1 with
      | nil=>rw[mM]
      | cons q A2=>
       have:¬ q.1<=r.1:=by simpa[CG] using h
       rw[mM,if_neg this]
     .have:=@I3 O r;simp at hle;omega
end Go.Proofs.YtefdekemmnnclaaGreat
namespace Go.Proofs.YtefdekemmnnclaaGreat
open Go.V Go.V.Rn
theorem Ue(a b:Int):(LA a b).length<=1:=by unfold LA;split <;> simp
theorem OJ{l:Sl}{w:Wd}{K:Int->Sl->Int->Pw}{L:List fP}(h:Ii w.heap l L)(hu:EF L)(hn:L.length<=9223372036854775807)
    (k0:cA L=false->∀w',Ext No w w'->K 0 ⟨none,0,0⟩ 2 w') (k1:L=[]->∀w',Ext No w w'->K 0 ⟨none,0,0⟩ 9 w')
    (k2:∀r M,L=r::M->cA L=true->∀s w',sQ w'.heap w.heap.size s (qt L)->Ext No w w'->K r.1 s 0 w'):uM l w K:=by
  apply JJ;have hl:=h.len;refine ox h hu hn fun w1 ext=>If.not (If.cases (fun hr=>?_) (fun hr=>k0 hr w1 ext))
  refine If.beq (fun h0=>k1 (List.length_eq_zero_iff.1 (by omega)) w1 ext) (fun h0=>?_);obtain⟨r,M,rfl⟩:=u_ (L:=L) (by omega);have hlen:=vt hr hu;have hrr:=hu.head
  have aV:r.1 < r.2:=by
    have:=pO hr r List.mem_cons_self;exact this.2
  refine Ix.run (h.no ext) (by omega) (by omega) fun b o hb c1 c2=>⟨_,c1,_,c2,A3 fun b w3 XD Cj tq=>?_⟩
  have e0:gr (r::M) (0:Int).toNat=r:=rfl;rw[e0]at tq;have ext':=ext.no Cj;refine⟨_,Cell.ah tq rfl,Ar.u32 (by omega) ⟨_,Cell.ah tq rfl,FW fun s4 w4 aa3 JS=>?_⟩⟩;have l4:=sQ.len aa3;have S_:=Ue (r.1+1) r.2;have sz1:=ext.size;have sz3:=Cj.size;have sz4:=JS.size;have adf:b < w3.heap.size:=(Array.getElem?_eq_some_iff.1 tq).1;refine pv (aP.nil _ w.heap.size _ _) (by omega) aa3.rd.src (by simp only;omega) fun s5 w5 XN adg adh adi=>?_
  simp only[List.nil_append]at XN;have Q3:Ext No w4 w5:=adh.mono fun i _ hi=>by simp[Sl.au]at hi
  have sz5:=Q3.size
  have dz:¬ s5.au=some b:=by
    intro he;rcases adi with h' | ⟨b',h',ym⟩
    · rw[he]at h';simp[Sl.au]at h'
    · rw[he]at h';cases h';omega
  have Q4:w5.heap[b]? = some (QZ r.1 r.2):=by
    rw[Q3.au b (by omega) id,JS.au b adf id];exact tq
  have VB:Ext No w w5:=(ext'.no JS).no Q3;refine⟨Ext (fun i=>s5.au=some i) w5,(Ext.refl _ _).drew,_,af.bq (Cell.ah Q4 rfl) dz,?_⟩;have rd5:Ii (aa w5).heap l (r::M):=h.no VB.drew;have aa4:aP (aa w5).heap w.heap.size FQ 2 s5 (rc (LA (r.1+1) r.2)):=XN
  refine Cut.tail rd5 fun s' rd' => pv aa4 (by have : (aa w5).heap.size = w5.heap.size := rfl
                                               omega) rd'.src (by have:=rd'.len;simp only[List.length_cons]at hlen hl;simp only at adg;omega) fun s6 w6 adj _ aa5 _=>⟨aa5.ae,?_⟩
  refine k2 r M rfl hr s6 w6 (by rw[sQ,qt,QO];exact adj) (VB.trans aa5.ae fun i hi hb=>?_);have:=(XN.lt hb).1;omega
theorem mk_one{p:Int}(h0:0<=p):LA p (p+1)=[(p,p+1)]/\cA [(p,p+1)]=true:=by
 refine⟨by unfold LA;rw[if_neg (by omega)],?_⟩;simp only[cA,kY,Bool.and_true,Bool.and_eq_true,decide_eq_true_eq];omega
theorem OL{l:Sl}{p:Int}{w:Wd}{K:Sl->Int->Pw}{L:List fP}(h:Ii w.heap l L)(hu:EF L)(hn:L.length<=9223372036854775807)(hp:0<=p/\p<=4294967295)
  (k0:cA L=false->∀w',Ext No w w'->K ⟨none,0,0⟩ 2 w') (k1:cA L=true->p=4294967295->∀w',Ext No w w'->K ⟨none,0,0⟩ 2 w')
  (k2:cA L=true->p≠4294967295->hasB p L=true->∀w',Ext No w w'->K ⟨none,0,0⟩ 8 w')
  (k3:cA L=true->p≠4294967295->hasB p L=false->∀s w',sQ w'.heap w.heap.size s (yt L [(p,p+1)])->Ext No w w'->K s 0 w'):uI l p w K:=by
 apply Jp;refine Q0 h hu hn fun w1 ext=>?_
 cases hr:cA L with
 | false=>exact If.bne (fun _=>k0 hr w1 ext) (fun h=>by simp at h)
 | true=>
  refine If.bne (fun h=>by simp at h) (fun _=>If.beq (fun e=>k1 hr e w1 ext) (fun e=>If.cases (fun hh=>k2 hr e (by simpa using hh) w1 ext) (fun hh=>?_)));have hh':hasB p L=false:=by simpa using hh
  have hlen:=vt hr hu;obtain⟨m1,m2⟩:=mk_one (p:=p) hp.1;refine Ar.u32 (by omega) (FW fun s2 w2 Fj OH=>?_);rw[m1]at Fj;have ext':=ext.no OH;refine OI (h.no ext') Fj.rd hu (fun x hx=>by simp at hx;subst hx;exact⟨by omega,by omega,by simp only;omega,by simp only;omega⟩) hn (by simp) fun s3 w3 Uc Cj=>?_
  rw[hr,m2]at Uc ⊢;exact k3 hr e hh' s3 w3 (Uc.mono ext'.size) (ext'.no Cj)
def xJ(_vv _ev:Option Addr)(w:Wd)(K:Pw):Prop:=SZ .nilIface/\If (pJ .nilIface) (K w) (∃a,Sem.run pz (Instr.typeAssert (.nilIface) 20 122 true) w = .ok (.tuple #[]) a/\False)
def xK:sV:=(.block (qz (.cond n0 (qz (.cond (qz n0) (qz (.cond (qz n0) (qz (.cond (qz (qz n0)) (qz n0))))))))))
theorem xM{vv:Option Addr}{ev:Option Addr}{w:Wd}{K:Pw}(h:xJ vv ev w K):oG pz 31 #[.pointer vv,.pointer ev] K w:=
 mkN (pk:=PK) (ann:=xK) (args:=[.pointer vv,.pointer ev]) (id:=0) (t:=9) (ops:=Xa (acN (Tryz.f31.body.getD .skip))) (rest:=acO (Tryz.f31.body.getD .skip)) Tryz.func31 (by kernel_rfl) (by kernel_rfl) (fun _ _ _ _=>by kernel_rfl) (by kernel_rfl) (of_decide_eq_true (by kernel_rfl)) (by kernel_rfl) h
def va(vv:Option Addr)(again:Bool)(w:Wd)(K:Int->Pw):Prop:=an w (.cells [.int .i64 0].toArray 37) fun Z w8=>nX  w8 fun s2 x3=>an x3 (.map #[] 0) fun r7 x7=>Nn vv fun n8=>aH x7 (n8.add 7) (.bool false) fun x9=>Nn vv fun n9=>aH x9 (n9.add 8) (.pointer s2) fun y1=>Nn vv fun p0=>aH y1 (p0.add 9) (.pointer none) fun y3=>Nn vv fun q0=>aH y3 (q0.add 17) (.map (some r7)) fun e4=>∃W:Pw,(If again (Nn vv fun q8=>∃h3:Option Addr,Cell e4 (q8.add 4) (.pointer h3)/\dg h3 e4 fun v0 z1=>a_ v0 z1 fun z2=>W z2) (W e4))/\∀(_:Env)(k4:Wd),W k4->∃D:Nat->Int->Pw,(∃k,D k 0 k4)/\∀(_:Env)(c5:Nat)(u:Int)(A:Wd),D c5 u A->If (decide (u < 2)) (Nn vv fun r2=>∃i2:Option Addr,Cell A (r2.add 4) (.pointer i2)/\dh i2 u A fun t0 t9 w9=>aZ t0 t9 w9 fun v9 x0=>ma v9 x0 fun _ _ c8 _ u9 d5=>∃V:Bool->Pw,(If (u9 == 0) (Nn vv fun r3=>∃j2:Option Addr,Cell d5 (r3.add 8) (.pointer j2)/\df j2 0 d5 fun w2 x1=>kG w2 c8 x1 fun w3 x2=>V (!w3) x2) (V false d5))/\∀(_:Env)(h2:Bool)(N:Wd),V h2 N->If h2 (∃a:Pw,a (aa N)/\Nn vv fun r4=>∃j9:Option Addr,af a (r4.add 8) (.pointer j9)/\Nn vv fun r5=>∃M:Sl,af a (r5.add 3) M.u/\oZ M c8 (aa N) fun t3 u2 k5=>a k5/\aZ t3 u2 k5 fun w4 k6=>a k6/\eL j9 0 c8 w4 k6 fun w5 k7=>a k7/\a_ w5 k7 fun k8=>a k8/\Ar .i64 (u+1) fun z3=>∃r,r < c5/\D r z3 k8) (Ar .i64 (u+1) fun z4=>∃r,r < c5/\D r z4 N)) (∃a:Pw,a (aa A)/\Nn vv fun r6=>∃k0:Option Addr,af a (r6.add 4) (.pointer k0)/\Nn vv fun o0=>∃k1:Option Addr,af a (o0.add 5) (.pointer k1)/\Nn vv fun o1=>∃k2:Option Addr,af a (o1.add 8) (.pointer k2)/\pP k0 k1 k2 (aa A) fun s3 s4 s5 s6 s7 s8 s9 u3 k9=>a k9/\eH s3 s4 s5 s6 s7 s8 s9 u3 k9 fun g4 g5 g6 g7 g8 g9 h0 l0=>a l0/\Nn vv fun o2=>bG l0 (o2.add 10) 7 (wh g4 g5 g6 g7 g8 g9 h0) fun d6=>∃U:Pw,(Nn vv fun o3=>∃k3:Int,Cell d6 (o3.add 10) (.int .u64 k3)/\If (k3 == 0) (Nn vv fun o4=>aH d6 ((o4.add 10).add 5) (.int .u16 1) fun x4=>U x4) (U d6))/\∀(_:Env)(d7:Wd),U d7->Nn vv fun o5=>∃h4:Option Addr,Cell d7 (o5.add 8) (.pointer h4)/\df h4 0 d7 fun d0 x5=>∃C:Nat->Int->Pw,(∃k,C k 0 x5)/\∀(_:Env)(c6:Nat)(x:Int)(l:Wd),C c6 x l->If (decide (x < ((d0.len:Int)))) (Ix d0.a d0.len x 1 fun o6=>∃d2:Int,Cell l o6 (.int .u16 d2)/\Nn vv fun o7=>∃h5:Int,Cell l ((o7.add 10).add 5) (.int .u16 h5)/\If (d2 != h5) (Nn vv fun o8=>∃h6:Option Addr,Cell l (o8.add 8) (.pointer h6)/\As h6 0 d2 l fun w6 x6=>a_ w6 x6 fun x8=>Ar .i64 (x+1) fun z5=>∃s,s < c6/\C s z5 x8) (Ar .i64 (x+1) fun z6=>∃s,s < c6/\C s z6 l)) (∃T:Pw,(Nn vv fun o9=>∃h7:Option Addr,Cell l (o9.add 8) (.pointer h7)/\df h7 0 l fun w7 d8=>If (((w7.len:Int)) == 0) (∃a:Pw,a (aa d8)/\Nn vv fun p1=>∃h8:Option Addr,af a (p1.add 8) (.pointer h8)/\Nn vv fun p2=>∃h9:Int,af a ((p2.add 10).add 5) (.int .u16 h9)/\Nn vv fun p3=>∃L:Sl,af a (p3.add 3) L.u/\Nn vv fun p4=>∃i0:Int,af a ((p4.add 10).add 5) (.int .u16 i0)/\oZ L i0 (aa d8) fun t4 u4 l1=>a l1/\aZ t4 u4 l1 fun v1 l2=>a l2/\eL h8 0 h9 v1 l2 fun v2 l3=>a l3/\a_ v2 l3 fun l4=>a l4/\T l4) (T d8))/\∀(_:Env)(d9:Wd),T d9->∃a:Pw,a (aa d9)/\Nn vv fun p5=>∃i1:Option Addr,af a (p5.add 4) (.pointer i1)/\Nn vv fun p6=>∃i3:Option Addr,af a (p6.add 8) (.pointer i3)/\Nn vv fun p7=>∃i4:Option Addr,af a (p7.add 6) (.pointer i4)/\uz i1 i3 i4 ⟨none,0,0⟩ (aa d9) fun t5 u5 l5=>a l5/\ff t5 u5 l5 fun v3 l6=>a l6/\Nn vv fun p8=>aH l6 (p8.add 9) (.pointer v3) fun l7=>∃a:Pw,a (aa l7)/\Nn vv fun p9=>∃i5:Option Addr,af a (p9.add 9) (.pointer i5)/\Nn vv fun E=>oK (af a) ((E.add 10).add 1) fun e6 e7 e8 f5=>fe (.iface 83 (.pointer i5)) 0 e6 e7 e8 f5 (aa l7) fun t6 u6 l8=>a l8/\bX t6 u6 l8 fun v4 e0=>a e0/\∃a:Pw,a (aa e0)/\Nn vv fun q1=>∃i6:Option Addr,af a (q1.add 9) (.pointer i6)/\Nn vv fun F=>oK (af a) ((F.add 10).add 1) fun f6 f7 f8 f9=>wR (.iface 83 (.pointer i6)) f6 f7 f8 f9 (aa e0) fun t7 u7 l9=>a l9/\gi t7 u7 l9 fun I O=>a O/\∃e5:Pw,(Nn vv fun q2=>∃i7:Int,Cell O ((q2.add 10).add 6) (.int .u32 i7)/\Ar .i64 i7 fun z7=>If (((I.len:Int)) != z7) (cB [{ v:= .iface 123 (.agg ([.int .i64 5]).toArray),recovered:=false }] O) (e5 O))/\∀(_:Env)(e1:Wd),e5 e1->∃a:Pw,a (aa e1)/\Nn vv fun q3=>∃i8:Option Addr,af a (q3.add 8) (.pointer i8)/\Nn vv fun q4=>∃i9:Int,af a ((q4.add 10).add 5) (.int .u16 i9)/\cT i8 0 i9 (aa e1) fun t8 u8 m0=>a m0/\aZ t8 u8 m0 fun v5 m1=>a m1/\∃B:Nat->Sl->Int->Pw,(∃k,B k v4 0 m1)/\∀(_:Env)(c7:Nat)(m:Sl)(y:Int)(c:Wd),B c7 m y c->If (decide (y < ((I.len:Int)))) (Ix I.a I.len y 9 fun e=>LC (Cell c) e fun c3 c4 f a0 a1 a2 a3 a4 g=>an c (.cells (QQ 0 0 0 0 0 0 0).toArray 144) fun b y0=>bG y0 (A0 b) 9 (S5 c3 c4 f a0 a1 a2 a3 a4 g) fun m2=>∃p:Sl,Cell m2 ((A0 b).add 8) p.u/\∃S:Nat->Int->Pw,(∃k,S k 0 m2)/\∀(_:Env)(g0:Nat)(J:Int)(n:Wd),S g0 J n->If (decide (J < ((p.len:Int)))) (Ix p.a p.len J 3 fun Y=>Dm (Cell n) Y fun a5 a6 h=>an n (.cells (LB 0 0).toArray 195) fun q y2=>bG y2 (A0 q) 3 (Nv a5 a6 h) fun m3=>∃a:Pw,a (aa m3)/\Nn vv fun q5=>∃j0:Option Addr,af a (q5.add 8) (.pointer j0)/\∃j1:Int,af a (A0 b) (.int .u32 j1)/\∃j3:Int,af a (A0 q) (.int .u16 j3)/\∃j4:Int,af a (A0 b) (.int .u32 j4)/\Dm (af a) (A0 q) fun e9 f0 H=>EV v5 j4 e9 f0 H (aa m3) fun t1 u0 m4=>a m4/\aZ t1 u0 m4 fun v6 m5=>a m5/\eL j0 j1 j3 v6 m5 fun v7 m6=>a m6/\a_ v7 m6 fun m7=>a m7/\Ar .i64 (J+1) fun z8=>∃g2,g2 < g0/\S g2 z8 m7) (∃a:Pw,a (aa n)/\Nn vv fun q6=>∃j5:Option Addr,af a (q6.add 9) (.pointer j5)/\∃j6:Int,af a (A0 b) (.int .u32 j6)/\oK (af a) ((A0 b).add 3) fun f1 f2 f3 f4=>fe (.iface 83 (.pointer j5)) j6 f1 f2 f3 f4 (aa n) fun t2 u1 m8=>a m8/\bX t2 u1 m8 fun c9 m9=>a m9/\aU pz 55 55 m c9.u (fun h1 P=>a P/\∃a:Pw,a (aa P)/\Nn vv fun q7=>∃d3:Option Nat,af a (q7.add 17) (.map d3)/\∃d4:Int,af a (A0 b) (.int .u32 d4)/\LC (af a) (A0 b) fun a7 a8 i a9 b0 b1 b2 b3 j=>(lC  (aa P) fun v8 n1=>a n1/\an n1 (.map #[] 0) fun r8 n2=>a n2/\an n2 (.cells [.int .u32 a7,.int .i64 a8, i.u,.int .u32 a9,.int .u64 b0,.int .u16 b1,.int .u8 b2,.int .i64 b3, j.u,.pointer v8,.map (some r8),.int .u64 0].toArray 148) fun r9 n3=>a n3/\∃e2,Sem.run pz (Instr.mapUpdate 88 (.map d3) (.int .u32 d4) (.pointer (some (A0 r9)))) n3 = .ok () e2/\a e2/\Ar .i64 (y+1) fun z9=>∃t,t < c7/\B t h1 z9 e2)/\(an (aa P) (.map #[] 0) fun s0 n4=>a n4/\lC  n4 fun w0 n5=>a n5/\an n5 (.cells [.int .u32 a7,.int .i64 a8, i.u,.int .u32 a9,.int .u64 b0,.int .u16 b1,.int .u8 b2,.int .i64 b3, j.u,.pointer w0,.map (some s0),.int .u64 0].toArray 148) fun s1 n6=>a n6/\∃e3,Sem.run pz (Instr.mapUpdate 88 (.map d3) (.int .u32 d4) (.pointer (some (A0 s1)))) n6 = .ok () e3/\a e3/\Ar .i64 (y+1) fun A1=>∃t,t < c7/\B t h1 A1 e3)) m9)) (tE c 29 (dZ 0 0 0) 24 ((m.len:Int)) ((m.len:Int)) fun d1 y4=>∃R:Nat->Int->Pw,(∃k,R k 0 y4)/\∀(_:Env)(g1:Nat)(z:Int)(d:Wd),R g1 z d->If (decide (z < ((m.len:Int)))) (Ix m.a m.len z 6 fun o=>oJ (Cell d) o fun b4 b5 b6 b7 b8 b9=>an d (.cells (lN 0 0 0 0 0 0).toArray 31) fun G y5=>bG y5 (A0 G) 6 (lN b4 b5 b6 b7 b8 b9) fun Q=>rC (Cell Q) ((A0 G).add 3) fun c0 c1 c2=>Ix d1.a d1.len z 3 fun q9=>bG Q q9 3 (dZ c0 c1 c2) fun y6=>Ar .i64 (z+1) fun A2=>∃g3,g3 < g1/\R g3 A2 y6) (Nn vv fun r0=>∃j7:Option Addr,Cell d (r0.add 9) (.pointer j7)/\h_ j7 d1 d fun w1 y7=>a_ w1 y7 fun y8=>Nn vv fun r1=>aH y8 (r1.add 7) (.bool true) fun y9=>aH y9 (A0 Z) (.int .i64 0) fun z0=>oG pz 31 #[.pointer vv,.pointer (some (A0 Z))] (fun n7=>∃j8:Int,Cell n7 (A0 Z) (.int .i64 j8)/\K j8 n7) z0))))
def vc:Dp:=(.next n0 (.next n0 (.Tx (.last (.join [] 34909494181888 (qz (.cond n0 n0)) (.seq (qz (.block (.loop [(45,.int .i64)] 19807040628566049214013900768 (qz (.seq (.cond n0 n0) (.seq (.block (qz (qz (.join [(75,.bool)] 75539416981840613867520 n0 (.cond (.draw (aY [0,1,2,3,4,5,6,7,8,9,10] (.one 11 (aY [12,13] (.one 14 (.one 15 (.one 16 .fin))))))) n0))))) n0)))))) (.seq (.draw (aY [0,1,2,3,4,5,6,7,8,9,10,11,12] (.one 13 (aY [14,15] (.one 16 (aY [17,18] (.last 19))))))) (.join [] 10623439372562257327973395489584316416 (qz (.cond n0 n0)) (.seq (qz (.block (.loop [(129,.int .i64)] 356811242611756128387644565613158920559267840 (qz (.seq (.cond n0 n0) (.seq (.block (qz (qz (.cond n0 n0)))) n0)))))) (.join [] 1532495540509076935181857056885737691256365338087915520 (qz (.cond (.draw (aY [0,1,2,3,4,5,6,7,8,9,10,11,12,13,14,15,16,17,18] (.one 19 (aY [20,21] (.one 22 (.one 23 (.one 24 .fin))))))) n0)) (.seq (.draw (aY [0,1,2,3,4,5,6,7,8,9,10,11,12] (.one 13 (aY [14,15] (.one 16 (aY [17,18] (.last 19))))))) (.seq (.draw (aY [0,1,2,3,4,5,6,7,8,9] (.one 10 (aY [11,12] (.one 13 (.take 14 .fin)))))) (.seq (.draw (aY [0,1,2,3,4,5,6,7,8,9] (.one 10 (aY [11,12] (.one 13 (.take 14 .fin)))))) (.join [] 441496086621258877277467039065033471911481877063524414950552721441161216 (qz (.cond n0 n0)) (.seq (.draw (aY [0,1,2,3,4,5,6,7,8] (.one 9 (aY [10,11] (.one 12 (.take 13 .fin)))))) (.seq (qz (.block (.loop [(13,.sl),(253,.int .i64)] 2085924839766513737864877230266678808970330509027930238992659736933815946025458786142658371584 (qz (.seq (.cond n0 n0) (.seq (.block (qz (.seq (qz (.block (.loop [(260,.int .i64)] 15541349285132404770296568477452391114132729060097361519765474646589890155031594270720 (qz (.seq (.cond n0 n0) (.seq (.block (qz (.draw (aY [0,1,2,3,4,5,6,7,8,9,10,11] (.one 12 (aY [13,14] (.one 15 (.one 16 (.one 17 .fin))))))))) n0)))))) (.seq (.draw (aY [0,1,2,3,4,5,6,7,8,9] (.one 10 (aY [11,12] (.one 13 (.one 14 (.take 15 .fin))))))) (.draw (aY [0,1,2,3,4,5,6] (.two 7 (.one 8 (.take 9 (.one 10 (.one 11 .fin)))) 8 (.one 7 (.take 9 (.one 10 (.one 11 .fin))))))))))) n0)))))) (qz (.seq (qz (.block (.loop [(315,.int .i64)] 136636420704065716833206544766533536830991754914502131877549817850377618083530350184281356005015552 (qz (.seq (.cond n0 n0) (.seq (.block (qz n0)) n0)))))) (qz (qz (qz n0)))))))))))))))))))))
theorem vd{vv:Option Addr}{again:Bool}{w:Wd}{K:Int->Pw}(h:va vv again w K):gO vv again w K:=
 mkD (pk:=PK) (s:=vc) (args:=[.pointer vv,.bool again]) (tys:=[.one (.int .i64)]) (K:=K) (w:=w) Tryz.func66 (by kernel_rfl) (by kernel_rfl) (by kernel_rfl) h
def xN(c0 c1:Addr)(w:Wd)(K:Pw):Prop:=∃b:Int,Cell w c0 (.int .i64 b)/\If (b != 0) (∃a:Int,Cell w c0 (.int .i64 a)/\bG w c1 7 (QR a 0 0 0) fun c=>K c) (K w)
def xO:sV:=(qz (.cond n0 n0))
theorem xP{c0:Addr}{c1:Addr}{w:Wd}{K:Pw}(h:xN c0 c1 w K):oG pz 30 #[.pointer (some c0),.pointer (some c1)] K w:=
 mkE (pk:=PK) (ann:=xO) (args:=[.pointer (some c0),.pointer (some c1)]) Tryz.func30 (by kernel_rfl) (by kernel_rfl) h
def qR(c0 c1:Addr)(w:Wd)(K:Pw):Prop:=∃b:Bool,Cell w c0 (.bool b)/\If (!b) (∃c:Option Addr,Cell w c1 (.pointer c)/\Nn c fun g=>∃d:Option Addr,Cell w (g.add 9) (.pointer d)/\eQ d w fun i a=>If (!i) (∃e:Option Addr,Cell a c1 (.pointer e)/\Nn e fun h=>∃f:Option Addr,Cell a (h.add 9) (.pointer f)/\wS f a fun _ j=>K j) (K a)) (K w)
def qS:sV:=(qz (.cond n0 n0))
theorem qT{c0:Addr}{c1:Addr}{w:Wd}{K:Pw}(h:qR c0 c1 w K):oG pz 220 #[.pointer (some c0),.pointer (some c1)] K w:=
 mkE (pk:=PK) (ann:=qS) (args:=[.pointer (some c0),.pointer (some c1)]) Tryz.func220 (by kernel_rfl) (by kernel_rfl) h
def tT(vv:Option Addr)(build Dr:Value)(w:Wd)(K:Pw):Prop:=an w (.cells [.pointer vv].toArray 41) fun f T=>∃a:Pw,a (aa T)/\∃I:Option Addr,af a (A0 f) (.pointer I)/\Nn I fun a0=>∃M:Option Addr,af a (a0.add 9) (.pointer M)/\∃N:Option Addr,af a (A0 f) (.pointer N)/\Nn N fun a1=>∃O:Option Addr,af a (a1.add 5) (.pointer O)/\n_ M O (aa T) fun a5 a6 W=>a W/\ib a5 a6 W fun s Y=>a Y/\an Y (.cells [.bool false].toArray 4) fun g b2=>aH b2 (A0 g) (.bool false) fun b3=>aG pz true build [.int .u64 s] [.agg [.one (.int .u32),.one (.int .u64),.one (.int .u16),.one (.int .u8),.one (.int .u16),.one (.int .i64)]] (fun C D E F G H b4=>an b4 (.cells (Mq8 0 0 0 0 0 0).toArray 205) fun d b5=>bG b5 (A0 d) 6 (Mq8 C D E F G H) fun b6=>aH b6 (A0 g) (.bool true) fun e=>aaJ (Cell e) (A0 d) fun h i q r t P=>Ar .u32 P fun Z=>an e (.cells (wh 0 0 0 0 0 0 0).toArray 87) fun b a8=>bG a8 (A0 b) 7 (wh s h i q r t Z) fun U=>∃a:Pw,a (aa U)/\∃Q:Option Addr,af a (A0 f) (.pointer Q)/\Nn Q fun a2=>∃R:Option Addr,af a (a2.add 9) (.pointer R)/\∃S:Option Addr,af a (A0 f) (.pointer S)/\Nn S fun a3=>∃J:Option Addr,af a (a3.add 5) (.pointer J)/\FP (af a) (A0 b) fun v x y z A B u=>mI R J v x y z A B u (aa U) fun a7 V=>a V/\a_ a7 V fun c=>a c/\∃L:Option Addr,Cell c (A0 f) (.pointer L)/\FP (Cell c) (A0 b) fun j k l m n o p=>Nn L fun a4=>bG c (a4.add 10) 7 (wh j k l m n o p) fun a9=>aG pz true Dr [] [] (fun b0=>oG pz 220 #[.pointer (some (A0 g)),.pointer (some (A0 f))] (fun b1=>K b1) b0) cB a9) cB b3
def tU:Dp:=(.next n0 (.next (.draw (aY [0,1,2,3,4,5,6,7] (.one 8 (aY [9,10] (.one 11 (.take 12 .fin)))))) (.next n0 (.Tx (.last (qz (qz (qz (.seq (.draw (aY [0,1,2,3,4,5,6,7,8] (.one 9 (.one 10 .fin)))) (qz n0))))))))))
theorem tV{vv:Option Addr}{build Dr:Value}{w:Wd}{K:Pw}(h:tT vv build Dr w K):cl vv build Dr w K:=
 mkD (pk:=PK) (s:=tU) (args:=[.pointer vv,build,Dr]) (tys:=[]) (K:=K) (w:=w) Tryz.func129 (by kernel_rfl) (by kernel_rfl) (by kernel_rfl) h
def A7(vv:Option Addr)(c0 c1:Int)(c2:Sl)(c3 c4:Int)(c5 c6:Int)(c7 c8:Int)(c9 tF:Sl)(tG tH:Sl)(yv:Bool)(w:Wd)(K:Int->Int->Int->Sl->Sl->Int->Sl->Pw):Prop:=an w (.cells (ZC c0 c1 c2 c3 c4 c5 c6 c7 c8 c9 tF tG tH yv).toArray 53) fun b e8=>an e8 (.cells (QR 0 0 0 0).toArray 46) fun a f5=>bI vv f5 fun e7 N=>If e7 (bG N (A0 a) 7 (QR 1 0 0 0) fun g=>EU (Cell g) (A0 a) fun P Q Y D H b7 M=>K P Q Y D H b7 M g) (Nn vv fun e6=>∃e3:Bool,Cell N (e6.add 7) (.bool e3)/\If (!e3) (bG N (A0 a) 7 (QR 190 0 0 0) fun h=>EU (Cell h) (A0 a) fun d1 d2 d3 A B R C=>K d1 d2 d3 A B R C h) (an N (.cells [.int .i64 0].toArray 37) fun z f6=>aH f6 (A0 z) (.int .i64 0) fun e5=>∃e4:Int,Cell e5 (A0 b) (.int .i64 e4)/\jL vv e4 e5 fun O f7=>∃e2:Bool,∃c,Sem.run pz (CX .eql 47 (.tmp 24) (.const .nilFunc) (O) (.nilFunc)) f7 = .ok (.bool e2) c/\If e2 (dv 2 c fun d=>aaL (Cell d) (A0 b) fun S T i U V W Z a0 a1 j k l m a2=>aG pz true O [.agg ((ZC S T i U V W Z a0 a1 j k l m a2)).toArray] [.agg [.one (.int .i64),.one (.int .u64),.one (.int .u64),.one (.sl),.one (.sl),.one (.int .i64),.one (.sl)]] (fun d4 d6 d8 s u e0 x e9=>bG e9 (A0 a) 7 (ZD d4 d6 d8 s u e0 x) fun f0=>oG pz 31 #[.pointer vv,.pointer (some (A0 z))] (fun f1=>oG pz 30 #[.pointer (some (A0 z)),.pointer (some (A0 a))] (fun e=>EU (Cell e) (A0 a) fun a3 a4 a5 E F a6 G=>K a3 a4 a5 E F a6 G e) f1) f0) cB d) (aaL (Cell c) (A0 b) fun a7 a8 n a9 b0 b1 b2 b3 b4 o p q r b5=>aG pz true O [.agg ((ZC a7 a8 n a9 b0 b1 b2 b3 b4 o p q r b5)).toArray] [.agg [.one (.int .i64),.one (.int .u64),.one (.int .u64),.one (.sl),.one (.sl),.one (.int .i64),.one (.sl)]] (fun d5 d7 d9 t v e1 y f2=>bG f2 (A0 a) 7 (ZD d5 d7 d9 t v e1 y) fun f3=>oG pz 31 #[.pointer vv,.pointer (some (A0 z))] (fun f4=>oG pz 30 #[.pointer (some (A0 z)),.pointer (some (A0 a))] (fun f=>EU (Cell f) (A0 a) fun b6 b8 b9 I J d0 L=>K b6 b8 b9 I J d0 L f) f4) f3) cB c)))
def A8:Dp:=(.next n0 (.next (.block (qz (.cond (qz n0) (qz (.cond (qz n0) n0))))) (.next n0 (.Tx (.Tx (.last (qz (.seq (qz (.cond n0 n0)) (qz n0)))))))))
theorem A9{vv:Option Addr}{c0 c1:Int}{c2:Sl}{c3 c4:Int}{c5 c6:Int}{c7 c8:Int}{c9 tF:Sl}{tG tH:Sl}{yv:Bool}{w:Wd}{K:Int->Int->Int->Sl->Sl->Int->Sl->Pw}(h:A7 vv c0 c1 c2 c3 c4 c5 c6 c7 c8 c9 tF tG tH yv w K):kZ vv c0 c1 c2 c3 c4 c5 c6 c7 c8 c9 tF tG tH yv w K:=
 mkD (pk:=PK) (s:=A8) (args:=[.pointer vv,.agg ([.int .i64 c0,.int .u32 c1,.slice c2.a c2.len c2.cap,.int .i64 c3,.int .i64 c4,.int .u64 c5,.int .u64 c6,.int .u64 c7,.int .u8 c8,.slice c9.a c9.len c9.cap,.slice tF.a tF.len tF.cap,.slice tG.a tG.len tG.cap,.slice tH.a tH.len tH.cap,.bool yv]).toArray]) (tys:=[.agg [.one (.int .i64),.one (.int .u64),.one (.int .u64),.one (.sl),.one (.sl),.one (.int .i64),.one (.sl)]]) (K:=K) (w:=w) Tryz.func11 (by kernel_rfl) (by kernel_rfl) (by kernel_rfl) h
def qU(c0 c1:Addr)(w:Wd)(K:Pw):Prop:=∃a:Int,Cell w c0 (.int .i64 a)/\If (a != 0) (aH w c1 (.slice none 0 0) fun b=>K b) (K w)
def qV:sV:=(qz (.cond n0 n0))
theorem qW{c0:Addr}{c1:Addr}{w:Wd}{K:Pw}(h:qU c0 c1 w K):oG pz 84 #[.pointer (some c0),.pointer (some c1)] K w:=
 mkE (pk:=PK) (ann:=qV) (args:=[.pointer (some c0),.pointer (some c1)]) Tryz.func84 (by kernel_rfl) (by kernel_rfl) h
def tW(vv:Option Addr)(w:Wd)(K:Sl->Int->Pw):Prop:=an w (.cells [.slice none 0 0].toArray 55) fun b d3=>an d3 (.cells [.int .i64 0].toArray 37) fun c d6=>bI vv d6 fun c1 q=>If c1 (aH q (A0 b) (.slice none 0 0) fun e3=>aH e3 (A0 c) (.int .i64 1) fun E=>∃n:Sl,Cell E (A0 b) n.u/\∃Z:Int,Cell E (A0 c) (.int .i64 Z)/\K n Z E) (Nn vv fun b1=>∃a0:Bool,Cell q (b1.add 7) (.bool a0)/\If (!a0) (aH q (A0 b) (.slice none 0 0) fun e4=>aH e4 (A0 c) (.int .i64 190) fun F=>∃p:Sl,Cell F (A0 b) p.u/\∃a1:Int,Cell F (A0 c) (.int .i64 a1)/\K p a1 F) (an q (.map #[] 0) fun c0 e5=>an e5 (.cells [.map none].toArray 133) fun j e6=>aH e6 (A0 j) (.map (some c0)) fun a5=>∃a:Pw,a (aa a5)/\Nn vv fun b2=>∃a2:Option Addr,af a (b2.add 9) (.pointer a2)/\Nn vv fun h=>oK (af a) ((h.add 10).add 1) fun G H I J=>fe (.iface 83 (.pointer a2)) 0 G H I J (aa a5) fun c2 c5 a6=>a a6/\bX c2 c5 a6 fun u a7=>a a7/\aG pz false (.func (.func 85) #[] #[.pointer (some (A0 j)),.pointer (some (A0 b))]) [u.u] [] (fun A=>a A/\Nn vv fun b4=>∃a3:Option Nat,Cell A (b4.add 17) (.map a3)/\bJ a3 A fun d1 d4=>jO d1 d4 fun v d5=>∃s:Nat->Int->Pw,(∃t,s t 0 d5)/\∀(_:Env)(P:Nat)(l:Int)(f:Wd),s P l f->If (decide (l < ((v.len:Int)))) (Ix v.a v.len l 1 fun b5=>∃z:Int,Cell f b5 (.int .u32 z)/\Nn vv fun b6=>∃a4:Option Nat,Cell f (b6.add 17) (.map a4)/\∃k:Option Addr,∃B,Sem.run pz (Instr.lookup 88 (.map a4) (.int .u32 z) false) f = .ok (.pointer k) B/\∃a:Pw,a (aa B)/\Nn vv fun b7=>∃T:Option Addr,af a (b7.add 9) (.pointer T)/\Nn k fun i=>oK (af a) (i.add 3) fun L M N O=>fe (.iface 83 (.pointer T)) z L M N O (aa B) fun c3 c6 a8=>a a8/\bX c3 c6 a8 fun x a9=>a a9/\aG pz false (.func (.func 85) #[] #[.pointer (some (A0 j)),.pointer (some (A0 b))]) [x.u] [] (fun C=>a C/\Nn k fun b8=>∃U:Option Nat,Cell C (b8.add 10) (.map U)/\bU U C fun d2 d7=>jP d2 d7 fun y d8=>∃r:Nat->Int->Pw,(∃t,r t 0 d8)/\∀(_:Env)(Q:Nat)(m:Int)(g:Wd),r Q m g->If (decide (m < ((y.len:Int)))) (Ix y.a y.len m 1 fun b9=>∃V:Int,Cell g b9 (.int .u64 V)/\Nn k fun b3=>∃W:Option Nat,Cell g (b3.add 10) (.map W)/\∃c4:Int,∃c7:Int,∃c8:Int,∃c9:Int,∃d0:Int,∃d:Sl,∃b0,Sem.run pz (Instr.lookup 146 (.map W) (.int .u64 V) false) g = .ok (.agg ((ac2 c4 c7 c8 c9 d0 d)).toArray) b0/\aG pz true (.func (.func 85) #[] #[.pointer (some (A0 j)),.pointer (some (A0 b))]) [d.u] [] (fun d9=>Ar .i64 (m+1) fun e7=>∃S,S < Q/\r S e7 d9) cB b0) (Ar .i64 (l+1) fun e8=>∃R,R < P/\s R e8 g)) cB a9) (∃e:Sl,Cell f (A0 b) e.u/\aH f (A0 b) e.u fun e0=>aH e0 (A0 c) (.int .i64 0) fun e1=>oG pz 31 #[.pointer vv,.pointer (some (A0 c))] (fun e2=>oG pz 84 #[.pointer (some (A0 c)),.pointer (some (A0 b))] (fun D=>∃o:Sl,Cell D (A0 b) o.u/\∃Y:Int,Cell D (A0 c) (.int .i64 Y)/\K o Y D) e2) e1)) cB a7))
def tX:Dp:=(.next n0 (.next (.block (qz (.cond (qz n0) (qz (.cond (qz n0) n0))))) (.Tx (.Tx (.last (qz (qz (.seq (.draw (aY [0,1,2,3,4,5,6,7,8,9,10] (.one 11 (aY [12,13] (.one 14 (.one 15 .fin)))))) (.seq (qz (.block (.loop [(47,.int .i64)] 79228162514264196856055596416 (qz (.seq (.cond n0 n0) (.seq (.block (qz (qz (.seq (.draw (aY [0,1,2,3,4,5,6,7,8,9,10,11] (.one 12 (aY [13,14] (.one 15 (.one 16 .fin)))))) (qz (.block (.loop [(81,.int .i64)] 39611663405492939538422563840 (qz (.seq (.cond n0 n0) (.seq (.block (qz n0)) n0)))))))))) n0)))))) (qz n0))))))))))
theorem tY{vv:Option Addr}{w:Wd}{K:Sl->Int->Pw}(h:tW vv w K):gh vv w K:=
 mkD (pk:=PK) (s:=tX) (args:=[.pointer vv]) (tys:=[.one (.sl),.one (.int .i64)]) (K:=K) (w:=w) Tryz.func35 (by kernel_rfl) (by kernel_rfl) (by kernel_rfl) h
end Go.Proofs.YtefdekemmnnclaaGreat
